/-
  The walk of ColumnParts: it returns true. Conditions: none.
-/
import Derived.Test.YtlebikmiophghaaDoorColumnAlive
import Derived.Test.YtlebikmiophghaaDoorDoorD
namespace Go.Proofs.YtlebikmiophghaaDoor
open Go.RowKit Go.Lib

namespace columnParts
set_option maxHeartbeats 4000000 in
theorem walk (a : ByteArray) (ha : a.size ≤ maxLen) (b : ByteArray) (hb : b.size ≤ maxLen) (c : Int) (_hc : Lit.wf (.int .i64 c) = true) (w : World) (_hT : Tabs w) :
    Calls Tryd.prog 6 #[.string a, .string b, .int .i64 c] w fun e w' => e = .returned (.bool true) ∧ Below w.heap.size w w' := by
  unfold maxLen at ha hb
  by_cases h1 : 20000 < a.size
  · go_enter Tryd.func6, Tryd.ntmps6
    go_wp2_with fail
    refine (column_alive _).mono ?_
    rintro e w1 ⟨rfl, b1⟩
    go_wp2_with fail
    go_ret
    exact ⟨rfl, b1⟩
  · by_cases h2 : 20000 < b.size
    · go_enter Tryd.func6, Tryd.ntmps6
      go_wp2_with fail
      refine (column_alive _).mono ?_
      rintro e w1 ⟨rfl, b1⟩
      go_wp2_with fail
      go_ret
      exact ⟨rfl, b1⟩
    · by_cases h3 : c < 0
      · go_enter Tryd.func6, Tryd.ntmps6
        go_wp2_with fail
        refine (column_alive _).mono ?_
        rintro e w1 ⟨rfl, b1⟩
        go_wp2_with fail
        go_ret
        exact ⟨rfl, b1⟩
      · by_cases h4 : 1048576 < c
        · go_enter Tryd.func6, Tryd.ntmps6
          go_wp2_with fail
          refine (column_alive _).mono ?_
          rintro e w1 ⟨rfl, b1⟩
          go_wp2_with fail
          go_ret
          exact ⟨rfl, b1⟩
        · have hbc := beginC_id c (by omega) (by omega)
          have hA := colEnd_bound a.data.toList c
          have hB := colEnd_bound b.data.toList (colEnd a.data.toList c)
          rw [ba_len] at hA hB
          have zab : (a ++ b : ByteArray).size = a.size + b.size := ByteArray.size_append
          have eab : colEnd (a ++ b : ByteArray).data.toList c = colEnd b.data.toList (colEnd a.data.toList c) := by
            rw [ba_app, colEnd_append]
          have hil := indL_le (a ++ b : ByteArray).data.toList
          rw [ba_len] at hil
          have HH := indent_head (a ++ b)
          have hI := colEnd_bound (indL (a ++ b : ByteArray).data.toList) c
          have kA := fun w => width_any a (by omega) c w
          have kAB := fun w => width_any (a ++ b) (by omega) c w
          have kI := fun w => indent_any (a ++ b) (by omega) c w
          have kH := fun w => width_any ((a ++ b).extract 0 (indL (a ++ b : ByteArray).data.toList).length) (by rw [ByteArray.size_extract]; omega) c w
          rw [HH, hbc] at kH
          rw [hbc] at kA kAB kI
          rw [eab] at kAB
          generalize colEnd a.data.toList c = x at *
          have hbx : beginC (c + (x - c)) = x := by rw [show c + (x - c) = x by omega]; exact beginC_id x (by omega) (by omega)
          have kB := fun w => width_any b (by omega) (c + (x - c)) w
          rw [hbx] at kB
          generalize colEnd b.data.toList x = y at *
          generalize colEnd (indL (a ++ b : ByteArray).data.toList) c = z at *
          generalize (indL (a ++ b : ByteArray).data.toList).length = m at *
          clear eab hbx hbc HH
          rw [zab] at hil
          go_enter Tryd.func6, Tryd.ntmps6
          go_wp2_with fail
          refine (column_alive _).mono ?_
          rintro e w1 ⟨rfl, b1⟩
          go_wp2_with fail
          refine (kA _).mono ?_
          rintro e w2 ⟨rfl, hw⟩
          subst hw
          go_wp2_with fail
          refine (kAB _).mono ?_
          rintro e w2 ⟨rfl, hw⟩
          subst hw
          go_wp2_with fail
          refine (kB _).mono ?_
          rintro e w2 ⟨rfl, hw⟩
          subst hw
          go_wp2_with fail
          refine (kI _).mono ?_
          rintro e w3 ⟨rfl, b3⟩
          go_wp2_with fail
          refine (kH _).mono ?_
          rintro e w2 ⟨rfl, hw⟩
          subst hw
          go_wp2_with fail
          go_ret
          exact ⟨rfl, b1.trans (b3.mono b1.size)⟩
end columnParts
end Go.Proofs.YtlebikmiophghaaDoor
