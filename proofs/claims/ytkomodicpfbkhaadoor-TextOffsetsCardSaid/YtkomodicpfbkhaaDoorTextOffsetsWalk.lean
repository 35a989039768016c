/-
  The walk of TextOffsets: it returns true whatever the text and the place. Conditions: the two tables of unicode/utf8.
-/
import Derived.Test.YtkomodicpfbkhaaDoorRefOffset
namespace Go.Proofs.YtkomodicpfbkhaaDoor
open Go.RowKit Go.Lib

theorem offV_example (C : Int) (L : Int) (m : Nat) (k : Nat) (hL : L = (k : Int) + 1) (hC : C = (m : Int) + 1) (v : Nat) (s : ByteArray) (hk : k < nlines s) (hok : OffOk s k m) (hv : offK s k m = v) : offV s L C = .tuple #[.int .i64 v, .int .i64 0] := by
  rw [hL, hC, offV_ok s k m hk hok, hv]
theorem nlines_pos (s : ByteArray) (h : 0 < s.size) : 1 ≤ nlines s := by
  have := lineP_bound s 0 (by omega); omega
theorem example_lines : linesP ⟨#[97, 98, 10, 99, 100]⟩ = [⟨0, 2, 3⟩, ⟨3, 5, 5⟩] := by rw [linesP_eq _ 5 rfl]; decide +kernel
theorem example_nlines : nlines ⟨#[97, 98, 10, 99, 100]⟩ = 2 := by
  unfold nlines
  rw [example_lines]
  decide +kernel
theorem example_last0 : lineLast ⟨#[97, 98, 10, 99, 100]⟩ 0 = 2 := by
  rw [lineLast_eq _ 0 (by rw [example_nlines]; omega)]; decide +kernel
theorem example_last1 : lineLast ⟨#[97, 98, 10, 99, 100]⟩ 1 = 5 := by
  rw [lineLast_eq _ 1 (by rw [example_nlines]; omega)]; decide +kernel
theorem example_22 : offV ⟨#[97, 98, 10, 99, 100]⟩ 2 2 = .tuple #[.int .i64 4, .int .i64 0] :=
  offV_example 2 2 1 1 rfl rfl 4 _ (by rw [example_nlines]; omega) (.inr (by rw [example_last1]; decide +kernel)) (by decide +kernel)
theorem example_13 : offV ⟨#[97, 98, 10, 99, 100]⟩ 1 3 = .tuple #[.int .i64 2, .int .i64 0] :=
  offV_example 3 1 2 0 rfl rfl 2 _ (by rw [example_nlines]; omega) (.inr (by rw [example_last0]; decide +kernel)) (by decide +kernel)

namespace textOffsets
set_option maxHeartbeats 4000000 in
theorem walk (s : ByteArray) (hs : s.size ≤ maxLen) (L C : Int) (w : World) (hT : Tabs w) :
    Calls Tryd.prog 8 #[.string s, .agg #[.int .i64 L, .int .i64 C]] w fun e w' => e = .returned (.bool true) ∧ Below w.heap.size w w' := by
  have C1 := Lib.hid example_22
  unfold maxLen at hs
  have hN0 : Below w.heap.size w (w.alloc (.cells #[.int .i64 L, .int .i64 C] 30)) := (Below.refl _ w).alloc (Nat.le_refl _) _
  have hB0 := heap_alloc_new w (.cells #[.int .i64 L, .int .i64 C] 30)
  have zB0 : (w.alloc (.cells #[.int .i64 L, .int .i64 C] 30)).heap.size = w.heap.size + 1 := by simp
  have hT0 := hT.below hN0
  by_cases hbig : 400 < s.size
  · go_enter Tryd.func8, Tryd.ntmps8
    go_wp2_with fail
    refine (text_offset_any _ (by decide) _ _ _ hT0).mono ?_
    rintro e w1 ⟨rfl, b1⟩
    rw [C1.out]
    go_wp2_with fail
    go_ret
    exact ⟨rfl, hN0.trans (b1.mono (by omega))⟩
  · obtain ⟨a, c, hv⟩ := offV_shape s L C
    have HV := Lib.hid hv
    clear hv
    go_enter Tryd.func8, Tryd.ntmps8
    go_wp2_with fail
    refine (text_offset_any _ (by decide) _ _ _ hT0).mono ?_
    rintro e w1 ⟨rfl, b1⟩
    rw [C1.out]
    have z1 := b1.size
    have hb1 : Below w.heap.size w w1 := hN0.trans (b1.mono (by omega))
    have k1 := (b1.block w.heap.size (by omega)).trans hB0
    obtain ⟨q0, q1, _, _⟩ := block_two k1
    have hT1 := hT0.below b1
    go_wp2_with fail
    refine (text_offset_any s (by omega) _ _ _ hT1).mono ?_
    rintro e w2 ⟨rfl, b2⟩
    rw [HV.out]
    have z2 := b2.size
    obtain ⟨r0, r1, _, _⟩ := block_two ((b2.block w.heap.size (by omega)).trans k1)
    go_wp2_with fail
    refine (ref_offset_any s (by omega) _ _ _).mono ?_
    rintro e w3 ⟨rfl, b3⟩
    rw [HV.out]
    go_wp2_with fail
    go_ret
    exact ⟨ret_bool (by simp), hb1.trans ((b2.mono (by omega)).trans (b3.mono (by omega)))⟩
end textOffsets
end Go.Proofs.YtkomodicpfbkhaaDoor
