/-
  The walk of TextLines: it returns true whatever the text. Conditions: none.
-/
import Derived.Test.YtkomodicpfbkhaaSameLines
namespace Go.Proofs.Ytkomodicpfbkhaa
open Go.RowKit Go.Lib

def linesN (s : ByteArray) : Nat → Nat → List LineP
  | 0, _ => []
  | n + 1, p => if p < s.size then ⟨p, lineTo s p, lineEnd s (lineTo s p)⟩ :: linesN s n (lineEnd s (lineTo s p)) else []
theorem linesFrom_fuel (s : ByteArray) : ∀ n p, s.size - p ≤ n → linesFrom s p = linesN s n p
  | 0, p, h => by rw [linesFrom_out s p (by omega)]; rfl
  | n + 1, p, h => by
    by_cases hp : p < s.size
    · have := line_gt s p hp
      have := line_le s p (by omega)
      rw [linesFrom_in s p hp, linesFrom_fuel s n _ (by omega)]
      simp only [linesN, hp, if_true]
    · rw [linesFrom_out s p hp]; simp only [linesN, hp, if_false]
theorem linesP_eq (s : ByteArray) (n : Nat) (h : s.size = n) : linesP s = linesN s n 0 := linesFrom_fuel s n 0 (by omega)

theorem linesP_len (s : ByteArray) : (linesP s).length ≤ s.size := by
  have := linesFrom_len s 0
  unfold linesP; omega

/-- A slice's lines: its shape. -/
theorem LinesAt.shape {w : World} {v : Value} {l : List LineP} (h : LinesAt w v l) : ∃ a cap, v = .slice a l.length cap := by
  obtain ⟨a, cap, hv, _⟩ := h
  exact ⟨a, cap, hv⟩

namespace textLines
set_option maxHeartbeats 4000000 in
theorem walk (s : ByteArray) (hs : s.size ≤ maxLen) (w : World) :
    Calls Try.prog 3 #[.string s] w fun e w' => e = .returned (.bool true) ∧ Below w.heap.size w w' := by
  have C1 := Lib.hid (show (linesP ⟨#[97, 13, 10, 98, 13]⟩).length = 2 by rw [linesP_eq _ 5 rfl]; decide +kernel)
  have hll := linesP_len s
  unfold maxLen at hs
  by_cases hbig : 100000 < s.size
  · go_enter Try.func3, Try.ntmps3
    go_wp2_with fail
    refine (lines_any _ (by decide) _).mono ?_
    rintro e w1 ⟨⟨v, rfl, hown⟩, b1⟩
    obtain ⟨a, cap, rfl⟩ := (LinesAt.of_owns hown).shape
    rw [C1.out]
    go_wp2_with fail
    go_ret
    exact ⟨rfl, b1⟩
  · go_enter Try.func3, Try.ntmps3
    go_wp2_with fail
    refine (lines_any _ (by decide) _).mono ?_
    rintro e w1 ⟨⟨v, rfl, hown⟩, b1⟩
    obtain ⟨a, cap, rfl⟩ := (LinesAt.of_owns hown).shape
    rw [C1.out]
    go_wp2_with fail
    refine (lines_any s (by omega) _).mono ?_
    rintro e w2 ⟨⟨v2, rfl, hown2⟩, b2⟩
    have h2 := LinesAt.of_owns hown2
    obtain ⟨a2, cap2, rfl⟩ := h2.shape
    go_wp2_with fail
    refine (ref_lines_any s (by omega) _).mono ?_
    rintro e w3 ⟨⟨v3, rfl, hown3⟩, b3⟩
    have h3 := LinesAt.of_owns hown3
    obtain ⟨a3, cap3, rfl⟩ := h3.shape
    go_wp2_with fail
    refine (sameLines_any (linesP s) (by omega) _ _ _ (h2.below b3) h3).mono ?_
    rintro e w4 ⟨rfl, b4⟩
    go_wp2_with fail
    go_ret
    have z1 := b1.size
    have z2 := b2.size
    have z3 := b3.size
    exact ⟨rfl, b1.trans ((b2.mono (by omega)).trans ((b3.mono (by omega)).trans (b4.mono (by omega))))⟩
end textLines
end Go.Proofs.Ytkomodicpfbkhaa
