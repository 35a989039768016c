/-
  The walk of TextPlaces: it returns true whatever the text and the offset. Conditions: the two tables of unicode/utf8.
-/
import Derived.Test.YtkomodicpfbkhaaDoorRefAt
namespace Go.Proofs.YtkomodicpfbkhaaDoor
open Go.RowKit Go.Lib

theorem atV_shape (s : ByteArray) (o : Int) : ∃ a b e : Int, atV s o = .tuple #[.agg #[.int .i64 a, .int .i64 b], .int .i64 e] := by
  unfold atV placeV
  split
  · exact ⟨_, _, _, rfl⟩
  · exact ⟨_, _, _, rfl⟩

namespace textPlaces
set_option maxHeartbeats 4000000 in
theorem walk (s : ByteArray) (hs : s.size ≤ maxLen) (i : Int) (_hi : Lit.wf (.int .i64 i) = true) (w : World) (hT : Tabs w) :
    Calls Tryd.prog 7 #[.string s, .int .i64 i] w fun e w' => e = .returned (.bool true) ∧ Below w.heap.size w w' := by
  have C1 := Lib.hid (show atV ⟨#[97, 98, 10, 99, 100]⟩ 4 = .tuple #[.agg #[.int .i64 2, .int .i64 2], .int .i64 0] by
    have h := atV_in ⟨#[97, 98, 10, 99, 100]⟩ 4 (by decide)
    have e1 : lineP ⟨#[97, 98, 10, 99, 100]⟩ 4 = 2 := by decide +kernel
    have e2 : colP ⟨#[97, 98, 10, 99, 100]⟩ 4 = 2 := by decide +kernel
    rw [e1, e2] at h
    exact h)
  unfold maxLen at hs
  by_cases hbig : 20000 < s.size
  · go_enter Tryd.func7, Tryd.ntmps7
    go_wp2_with fail
    refine (text_at_any _ (by decide) _ _ hT).mono ?_
    rintro e w1 ⟨rfl, b1⟩
    rw [C1.out]
    go_wp2_with fail
    go_ret
    exact ⟨rfl, b1.alloc b1.size _⟩
  · obtain ⟨a, b, c, hv⟩ := atV_shape s i
    have HV := Lib.hid hv
    clear hv
    go_enter Tryd.func7, Tryd.ntmps7
    go_wp2_with fail
    refine (text_at_any _ (by decide) _ _ hT).mono ?_
    rintro e w1 ⟨rfl, b1⟩
    rw [C1.out]
    have z1 := b1.size
    have hT1 := hT.below b1
    have hT2 : Tabs (w1.alloc (.cells #[.int .i64 2, .int .i64 2] 30)) := hT1.below ((Below.refl _ w1).alloc (Nat.le_refl _) _)
    go_wp2_with fail
    refine (text_at_any s (by omega) _ _ hT2).mono ?_
    rintro e w2 ⟨rfl, b2⟩
    rw [HV.out]
    have z2 := b2.size
    simp only [World.size_alloc] at z2
    have hb2 : Below w.heap.size w w2 := (b1.alloc z1 _).trans (b2.mono (by simp; omega))
    go_wp2_with fail
    refine (ref_at_any s (by omega) _ _).mono ?_
    rintro e w3 ⟨rfl, b3⟩
    rw [HV.out]
    have z3 := b3.size
    simp only [World.size_alloc] at z3
    have hblk : w3.heap[w2.heap.size]? = some (.cells #[.int .i64 a, .int .i64 b] 30) := (b3.block w2.heap.size (by simp)).trans (heap_alloc_new w2 _)
    have hN : Below w3.heap.size w3 (w3.alloc (.cells #[.int .i64 a, .int .i64 b] 30)) := (Below.refl _ w3).alloc (Nat.le_refl _) _
    obtain ⟨q0, q1, q2, q3⟩ := block_two ((hN.block w2.heap.size (by omega)).trans hblk)
    have hb3 : Below w.heap.size w w3 := (hb2.alloc (by omega) _).trans (b3.mono (by simp; omega))
    go_wp2_with fail
    go_ret
    exact ⟨ret_bool (by simp), hb3.alloc (by omega) _⟩
end textPlaces
end Go.Proofs.YtkomodicpfbkhaaDoor
