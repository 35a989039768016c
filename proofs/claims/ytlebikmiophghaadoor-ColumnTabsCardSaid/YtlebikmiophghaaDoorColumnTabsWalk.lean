/-
  The walk of ColumnTabs: it returns true. Conditions: none.
-/
import Derived.Test.YtlebikmiophghaaDoorColumnAlive
import Derived.Test.YtlebikmiophghaaDoorDoorD
namespace Go.Proofs.YtlebikmiophghaaDoor
open Go.RowKit Go.Lib

namespace columnTabs
set_option maxHeartbeats 4000000 in
theorem walk (s : ByteArray) (hs : s.size ≤ maxLen) (c : Int) (_hc : Lit.wf (.int .i64 c) = true) (w : World) (_hT : Tabs w) :
    Calls Tryd.prog 7 #[.string s, .int .i64 c] w fun e w' => e = .returned (.bool true) ∧ Below w.heap.size w w' := by
  unfold maxLen at hs
  by_cases h1 : 50000 < s.size
  · go_enter Tryd.func7, Tryd.ntmps7
    go_wp2_with fail
    refine (column_alive _).mono ?_
    rintro e w1 ⟨rfl, b1⟩
    go_wp2_with fail
    go_ret
    exact ⟨rfl, b1⟩
  · by_cases h2 : c < 0
    · go_enter Tryd.func7, Tryd.ntmps7
      go_wp2_with fail
      refine (column_alive _).mono ?_
      rintro e w1 ⟨rfl, b1⟩
      go_wp2_with fail
      go_ret
      exact ⟨rfl, b1⟩
    · by_cases h3 : 1048576 < c
      · go_enter Tryd.func7, Tryd.ntmps7
        go_wp2_with fail
        refine (column_alive _).mono ?_
        rintro e w1 ⟨rfl, b1⟩
        go_wp2_with fail
        go_ret
        exact ⟨rfl, b1⟩
      · have hb := beginC_id c (by omega) (by omega)
        have hx := colEnd_bound s.data.toList c
        rw [ba_len] at hx
        have z9 : (s ++ ⟨#[9]⟩ : ByteArray).size = s.size + 1 := by rw [ByteArray.size_append]; rfl
        have z32 : (s ++ ⟨#[32]⟩ : ByteArray).size = s.size + 1 := by rw [ByteArray.size_append]; rfl
        have e9 : colEnd (s ++ ⟨#[9]⟩ : ByteArray).data.toList c = colEnd s.data.toList c / 4 * 4 + 4 := by
          rw [ba_app, colEnd_append]; rfl
        have e32 : colEnd (s ++ ⟨#[32]⟩ : ByteArray).data.toList c = colEnd s.data.toList c + 1 := by
          rw [ba_app, colEnd_append]; rfl
        have k0 := fun w => width_any s (by omega) c w
        have k9 := fun w => width_any (s ++ ⟨#[9]⟩) (by omega) c w
        have k32 := fun w => width_any (s ++ ⟨#[32]⟩) (by omega) c w
        rw [hb] at k0 k9 k32
        rw [e9] at k9
        rw [e32] at k32
        clear e9 e32 z9 z32 hb
        generalize colEnd s.data.toList c = x at *
        go_enter Tryd.func7, Tryd.ntmps7
        go_wp2_with fail
        refine (column_alive _).mono ?_
        rintro e w1 ⟨rfl, b1⟩
        go_wp2_with fail
        refine (k0 _).mono ?_
        rintro e w2 ⟨rfl, hw⟩
        subst hw
        go_wp2_with fail
        refine (k9 _).mono ?_
        rintro e w2 ⟨rfl, hw⟩
        subst hw
        go_wp2_with fail
        refine (k32 _).mono ?_
        rintro e w2 ⟨rfl, hw⟩
        subst hw
        go_wp2_with fail
        go_ret
        exact ⟨ret_bool (by simp; omega), b1⟩
end columnTabs
end Go.Proofs.YtlebikmiophghaaDoor
