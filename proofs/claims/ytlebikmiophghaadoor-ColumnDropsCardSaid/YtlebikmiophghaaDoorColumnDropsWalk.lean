/-
  The walk of ColumnDrops: it returns true. Conditions: none.
-/
import Derived.Test.YtlebikmiophghaaDoorColumnAlive
import Derived.Test.YtlebikmiophghaaDoorDoorD
namespace Go.Proofs.YtlebikmiophghaaDoor
open Go.RowKit Go.Lib

theorem tail_list (s : ByteArray) (k : Nat) : (s.extract k s.size).data.toList = s.data.toList.drop k := by
  rw [extract_data]
  exact List.take_of_length_le (by rw [List.length_drop, ba_len]; omega)

namespace columnDrops
set_option maxHeartbeats 8000000 in
theorem walk (s : ByteArray) (hs : s.size ≤ maxLen) (c : Int) (_hc : Lit.wf (.int .i64 c) = true) (n : Int) (hn : Lit.wf (.int .i64 n) = true) (w : World) (_hT : Tabs w) :
    Calls Tryd.prog 5 #[.string s, .int .i64 c, .int .i64 n] w fun e w' => e = .returned (.bool true) ∧ Below w.heap.size w w' := by
  unfold maxLen at hs
  have hnb : -9223372036854775808 ≤ n ∧ n ≤ 9223372036854775807 := by
    unfold Lit.wf at hn
    rw [Bool.and_eq_true, decide_eq_true_eq, decide_eq_true_eq] at hn
    have e1 : IntKind.min .i64 = -9223372036854775808 := rfl
    have e2 : IntKind.max .i64 = 9223372036854775807 := rfl
    rw [e1, e2] at hn
    exact hn
  by_cases h1 : 50000 < s.size
  · go_enter Tryd.func5, Tryd.ntmps5
    go_wp2_with fail
    refine (column_alive _).mono ?_
    rintro e w1 ⟨rfl, b1⟩
    go_wp2_with fail
    go_ret
    exact ⟨rfl, b1⟩
  · by_cases h2 : c < 0
    · go_enter Tryd.func5, Tryd.ntmps5
      go_wp2_with fail
      refine (column_alive _).mono ?_
      rintro e w1 ⟨rfl, b1⟩
      go_wp2_with fail
      go_ret
      exact ⟨rfl, b1⟩
    · by_cases h3 : 1048576 < c
      · go_enter Tryd.func5, Tryd.ntmps5
        go_wp2_with fail
        refine (column_alive _).mono ?_
        rintro e w1 ⟨rfl, b1⟩
        go_wp2_with fail
        go_ret
        exact ⟨rfl, b1⟩
      · by_cases h4 : n < 0
        · go_enter Tryd.func5, Tryd.ntmps5
          go_wp2_with fail
          refine (column_alive _).mono ?_
          rintro e w1 ⟨rfl, b1⟩
          go_wp2_with fail
          go_ret
          exact ⟨rfl, b1⟩
        · have hbc := beginC_id c (by omega) (by omega)
          have hE := colEnd_bound (indL s.data.toList) c
          have hil := indL_le s.data.toList
          have hsl := ba_len s
          rw [hsl] at hil
          have kI := fun w => indent_any s (by omega) c w
          have kD := fun w => drop_any s (by omega) c n hnb.1 hnb.2 w
          rw [hbc] at kI kD
          have HF := Lib.hid (fun g => dropAt_facts (l := s.data.toList) (col := c) (n := n) (g := g) (by omega : 0 ≤ n) rfl)
          go_enter Tryd.func5, Tryd.ntmps5
          go_wp2_with fail
          refine (column_alive _).mono ?_
          rintro e w1 ⟨rfl, b1⟩
          have z1 := b1.size
          go_wp2_with fail
          refine (kI _).mono ?_
          rintro e w2 ⟨rfl, b2⟩
          have z2 := b2.size
          go_wp2_with fail
          refine (kD _).mono ?_
          rintro e w3 ⟨⟨g, hd, rfl⟩, b3⟩
          have z3 := b3.size
          have hbb : Below w.heap.size w w3 := b1.trans ((b2.mono z1).trans (b3.mono (by omega)))
          have hF := HF.out g hd
          have hgm := hd.le
          have hgm2 := hd.at_
          clear hd HF kI kD
          generalize hEE : colEnd (indL s.data.toList) c = E at *
          generalize hm : (indL s.data.toList).length = m at *
          have hmx : max 0 (min n (E - c)) = min n (E - c) := Int.max_eq_right (Int.le_min.2 ⟨by omega, by omega⟩)
          rw [hmx] at hF hgm2 ⊢
          have hst2 : c + min n (E - c) - c = min n (E - c) := by generalize min n (E - c) = z; omega
          have hml : min n (E - c) ≤ E - c := Int.min_le_right ..
          have hm0 : 0 ≤ min n (E - c) := Int.le_min.2 ⟨by omega, by omega⟩
          generalize hmn : min n (E - c) = mn at *
          generalize hst : c + mn = st at *
          by_cases hlt : colEnd ((indL s.data.toList).take g) c < st
          · obtain ⟨hg, h9, h3', h0', hsum⟩ := hF.1 hlt
            have hgs : g < s.size := by omega
            have hl : leftOf s.data.toList c st g = nextC (colEnd ((indL s.data.toList).take g) c) s.data.toList[g] - st := by
              unfold leftOf
              rw [if_pos hlt, List.getD_eq_getElem?_getD, List.getElem?_eq_getElem hg]; rfl
            rw [hl]
            generalize hNX : nextC (colEnd ((indL s.data.toList).take g) c) s.data.toList[g] = NX at *
            have hbx := beginC_id NX (by omega) (by omega)
            have kR := fun w => indent_any (s.extract (g + 1) s.size) (by rw [ByteArray.size_extract]; omega) (st + (NX - st)) w
            rw [tail_list, show beginC (st + (NX - st)) = NX by rw [show st + (NX - st) = NX by omega]; exact hbx] at kR
            have h9' : s[g].toNat = 9 := by
              have : s[g] = 9 := h9
              rw [this]; rfl
            have x1 : ((s[g].toNat : Int) != 9) = false := by simp; omega
            have x2 : (s[g].toNat != 9) = false := by simp; omega
            have hR := colEnd_bound (indL (s.data.toList.drop (g + 1))) NX
            have hRl := indL_le (s.data.toList.drop (g + 1))
            rw [List.length_drop, hsl] at hRl
            generalize colEnd (indL (s.data.toList.drop (g + 1))) NX = R at *
            generalize (indL (s.data.toList.drop (g + 1))).length = rl at *
            clear hF hl h9 hlt
            go_wp2_with fail
            refine (kR _).mono ?_
            rintro e w4 ⟨rfl, b4⟩
            go_wp2_with fail
            go_ret
            exact ⟨ret_bool (by first | omega | (simp; done) | (simp; omega)), hbb.trans (b4.mono (by omega))⟩
          · have hsum := hF.2 (by omega)
            have hl : leftOf s.data.toList c st g = 0 := by
              unfold leftOf; rw [if_neg hlt]
            rw [hl]
            have hbx := beginC_id st (by omega) (by omega)
            have kR := fun w => indent_any (s.extract g s.size) (by rw [ByteArray.size_extract]; omega) st w
            rw [tail_list, hbx] at kR
            have hR := colEnd_bound (indL (s.data.toList.drop g)) st
            have hRl := indL_le (s.data.toList.drop g)
            rw [List.length_drop, hsl] at hRl
            generalize colEnd (indL (s.data.toList.drop g)) st = R at *
            generalize (indL (s.data.toList.drop g)).length = rl at *
            clear hF hl hlt
            go_wp2_with fail
            refine (kR _).mono ?_
            rintro e w4 ⟨rfl, b4⟩
            go_wp2_with fail
            go_ret
            exact ⟨ret_bool (by first | omega | (simp; done) | (simp; omega)), hbb.trans (b4.mono (by omega))⟩
end columnDrops
end Go.Proofs.YtlebikmiophghaaDoor
