/-
  The walk of TextBack: it returns true whatever the text and the offset. Conditions: the two tables of unicode/utf8.
-/
import Derived.Test.YtkomodicpfbkhaaDoorTextOffsetsWalk
namespace Go.Proofs.YtkomodicpfbkhaaDoor
open Go.RowKit Go.Lib

namespace textBack
set_option maxHeartbeats 4000000 in
theorem walk (s : ByteArray) (hs : s.size ≤ maxLen) (i : Int) (_hi : Lit.wf (.int .i64 i) = true) (w : World) (hT : Tabs w) :
    Calls Tryd.prog 9 #[.string s, .int .i64 i] w fun e w' => e = .returned (.bool true) ∧ Below w.heap.size w w' := by
  have C1 := Lib.hid example_13
  unfold maxLen at hs
  by_cases hbig : 20000 < s.size
  · go_enter Tryd.func9, Tryd.ntmps9
    go_wp2_with fail
    refine (text_offset_any _ (by decide) _ _ _ hT).mono ?_
    rintro e w1 ⟨rfl, b1⟩
    rw [C1.out]
    go_wp2_with fail
    go_ret
    exact ⟨rfl, b1⟩
  · by_cases hbad : i < 0 ∨ (s.size : Int) < i
    · have HV := Lib.hid (atV_out s i hbad)
      have hcs : i < 0 ∨ (¬ i < 0 ∧ (s.size : Int) < i) := by omega
      clear hbad
      rcases hcs with h1 | ⟨h1, h2⟩
      all_goals
        go_enter Tryd.func9, Tryd.ntmps9
        go_wp2_with fail
        refine (text_offset_any _ (by decide) _ _ _ hT).mono ?_
        rintro e w1 ⟨rfl, b1⟩
        rw [C1.out]
        have z1 := b1.size
        have hT1 := hT.below b1
        go_wp2_with fail
        refine (text_at_any s (by omega) _ _ hT1).mono ?_
        rintro e w2 ⟨rfl, b2⟩
        rw [HV.out]
        have z2 := b2.size
        go_wp2_with fail
        go_ret
        exact ⟨rfl, (b1.trans (b2.mono (by omega))).alloc (by omega) _⟩
    · obtain ⟨n, rfl⟩ : ∃ n : Nat, i = n := ⟨i.toNat, by omega⟩
      have hn : n ≤ s.size := by omega
      obtain ⟨k, m, h1, h2, hk, hok, hle, hlt4⟩ := off_back s n hn
      obtain ⟨h3, h4, h5, _⟩ := off_ok s k m hk hok
      have hv1 := atV_in s n hn
      rw [h1, h2] at hv1
      have hv2 := offV_ok s k m hk hok
      have hv3 := atV_in s (offK s k m) h3
      rw [h4, h5] at hv3
      have ek : (((k + 1 : Nat) : Int)) = (k : Int) + 1 := by omega
      have em : (((m + 1 : Nat) : Int)) = (m : Int) + 1 := by omega
      rw [ek, em] at hv1 hv3
      have hkb : k ≤ 100000 := by
        have : nlines s ≤ (linesP s).length + 1 := by unfold nlines; split <;> omega
        have := linesP_len s
        omega
      generalize offK s k m = o at *
      have HV1 := Lib.hid hv1
      have HV2 := Lib.hid hv2
      have HV3 := Lib.hid hv3
      clear hv1 hv2 hv3 h1 h2 h4 h5 hok hk ek em hbad
      have d4 : ((n : Int) - (o : Int)) < 4 := by omega
      have dm : 0 ≤ (m : Int) := by omega
      go_enter Tryd.func9, Tryd.ntmps9
      go_wp2_with fail
      refine (text_offset_any _ (by decide) _ _ _ hT).mono ?_
      rintro e w1 ⟨rfl, b1⟩
      rw [C1.out]
      have z1 := b1.size
      have hT1 := hT.below b1
      go_wp2_with fail
      refine (text_at_any s (by omega) _ _ hT1).mono ?_
      rintro e w2 ⟨rfl, b2⟩
      rw [HV1.out]
      have z2 := b2.size
      have hN2 : Below w2.heap.size w2 (w2.alloc (.cells #[.int .i64 ((k : Int) + 1), .int .i64 ((m : Int) + 1)] 30)) := (Below.refl _ w2).alloc (Nat.le_refl _) _
      have zN2 : (w2.alloc (.cells #[.int .i64 ((k : Int) + 1), .int .i64 ((m : Int) + 1)] 30)).heap.size = w2.heap.size + 1 := by simp
      have k2 := heap_alloc_new w2 (.cells #[.int .i64 ((k : Int) + 1), .int .i64 ((m : Int) + 1)] 30)
      have hT2 := (hT1.below b2).below hN2
      go_wp2_with fail
      refine (text_offset_any s (by omega) _ _ _ hT2).mono ?_
      rintro e w3 ⟨rfl, b3⟩
      rw [HV2.out]
      have z3 := b3.size
      have k3 := (b3.block w2.heap.size (by omega)).trans k2
      have hT3 := hT2.below b3
      go_wp2_with fail
      refine (text_at_any s (by omega) _ _ hT3).mono ?_
      rintro e w4 ⟨rfl, b4⟩
      rw [HV3.out]
      have z4 := b4.size
      have hN4 : Below w4.heap.size w4 (w4.alloc (.cells #[.int .i64 ((k : Int) + 1), .int .i64 ((m : Int) + 1)] 30)) := (Below.refl _ w4).alloc (Nat.le_refl _) _
      have k4 := (hN4.block w2.heap.size (by omega)).trans ((b4.block w2.heap.size (by omega)).trans k3)
      obtain ⟨q0, q1, _, _⟩ := block_two k4
      have hb4 : Below w.heap.size w w4 := b1.trans ((b2.mono (by omega)).trans ((hN2.mono (by omega)).trans ((b3.mono (by omega)).trans (b4.mono (by omega)))))
      go_wp2_with fail
      go_ret
      exact ⟨ret_bool (by simp; omega), hb4.trans (hN4.mono (by omega))⟩
end textBack
end Go.Proofs.YtkomodicpfbkhaaDoor
