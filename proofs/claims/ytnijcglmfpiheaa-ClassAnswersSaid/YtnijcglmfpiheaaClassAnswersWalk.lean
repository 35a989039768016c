/-
  The walk of ClassAnswers: it returns true whatever the number and the byte. Conditions: none.
-/
import Derived.Test.YtnijcglmfpiheaaRefMark
namespace Go.Proofs.Ytnijcglmfpiheaa
open Go.RowKit

theorem blank_not_mark (r : Int) (h : blankB r = true) : markB r = false := by
  unfold markB
  simp [blankB, inSpans, blanks] at h
  split
  · simp [plainB, inSpans, plains]; omega
  · simp [inSpans, latins, others]; omega

theorem plain_mark (b : Int) (h0 : 0 ≤ b) (_h1 : b < 256) : plainB b = (decide (b < 128) && markB b) := by
  by_cases h : b < 128
  · rw [mark_low h0 h]; simp [h]
  · simp [h, plainB, inSpans, plains]; omega

namespace classAnswers
set_option maxHeartbeats 4000000 in
set_option maxRecDepth 100000 in
theorem walk (r : Int) (_wr : (Lit.int .i64 r).wf = true) (b : Int) (wb : (Lit.int .u8 b).wf = true) (w : World) :
    Calls Try.prog 4 #[.int .i64 r, .int .u8 b] w fun e w' => e = .returned (.bool true) ∧ Below w.heap.size w w' := by
  have hb : 0 ≤ b ∧ b < 256 := by
    have h : IntKind.u8.min ≤ b ∧ b ≤ IntKind.u8.max := by simpa [Lit.wf] using wb
    have h0 : IntKind.u8.min = 0 := rfl
    have h1 : IntKind.u8.max = 255 := rfl
    omega
  obtain ⟨hb0, hb1⟩ := hb
  have B32 := Lib.hid (show blankB 32 = true by decide)
  have M33 := Lib.hid (show markB 33 = true by decide)
  have M97 := Lib.hid (show markB 97 = false by decide)
  have HN := Lib.hid (blank_not_mark r)
  have HP := Lib.hid (plain_mark b hb0 hb1)
  clear wb
  go_enter Try.func4, Try.ntmps4
  go_wp2_with fail
  refine (blank_any _ _).mono ?_
  rintro e w1 ⟨rfl, b1⟩
  rw [B32.out]
  go_wp2_with fail
  refine (mark_any _ _).mono ?_
  rintro e w2 ⟨rfl, b2⟩
  rw [M33.out]
  go_wp2_with fail
  refine (mark_any _ _).mono ?_
  rintro e w3 ⟨rfl, b3⟩
  rw [M97.out]
  go_wp2_with fail
  refine (blank_any _ _).mono ?_
  rintro e w4 ⟨rfl, b4⟩
  go_wp2_with fail
  refine (ref_blank_any _ _).mono ?_
  rintro e _ ⟨rfl, rfl⟩
  go_wp2_with fail
  refine (mark_any _ _).mono ?_
  rintro e w5 ⟨rfl, b5⟩
  go_wp2_with fail
  refine (ref_mark_any _ _).mono ?_
  rintro e _ ⟨rfl, rfl⟩
  go_wp2_with fail
  refine (plain_any _ hb0 hb1 _).mono ?_
  rintro e w6 ⟨rfl, b6⟩
  go_wp2_with fail
  refine (ref_plain_any _ _).mono ?_
  rintro e _ ⟨rfl, rfl⟩
  go_wp2_with fail
  refine (blank_any _ _).mono ?_
  rintro e w7 ⟨rfl, b7⟩
  have bel : Below w.heap.size w w7 := by
    have z1 := b1.size
    have z2 := b2.size
    have z3 := b3.size
    have z4 := b4.size
    have z5 := b5.size
    have z6 := b6.size
    exact b1.trans ((b2.mono (by omega)).trans ((b3.mono (by omega)).trans ((b4.mono (by omega)).trans ((b5.mono (by omega)).trans ((b6.mono (by omega)).trans (b7.mono (by omega)))))))
  have zel := bel.size
  clear b1 b2 b3 b4 b5 b6 b7
  cases hx : blankB r with
  | true =>
    have HM := Lib.hid (HN.out hx)
    clear hx HN
    go_wp2_with fail
    refine (mark_any _ _).mono ?_
    rintro e w8 ⟨rfl, b8⟩
    rw [HM.out]
    go_wp2_with fail
    refine (plain_any _ hb0 hb1 _).mono ?_
    rintro e w9 ⟨rfl, b9⟩
    rw [HP.out]
    have z8 := b8.size
    by_cases h : b < 128
    · go_wp2_with fail
      refine (mark_any _ _).mono ?_
      rintro e wa ⟨rfl, ba⟩
      have z9 := b9.size
      go_wp2_with fail
      go_ret
      exact ⟨ret_bool (by simp), bel.trans ((b8.mono (by omega)).trans ((b9.mono (by omega)).trans (ba.mono (by omega))))⟩
    · go_wp2_with fail
      go_ret
      exact ⟨ret_bool (by simp), bel.trans ((b8.mono (by omega)).trans (b9.mono (by omega)))⟩
  | false =>
    clear hx HN
    go_wp2_with fail
    refine (plain_any _ hb0 hb1 _).mono ?_
    rintro e w9 ⟨rfl, b9⟩
    rw [HP.out]
    have z9 := b9.size
    by_cases h : b < 128
    · go_wp2_with fail
      refine (mark_any _ _).mono ?_
      rintro e wa ⟨rfl, ba⟩
      go_wp2_with fail
      go_ret
      exact ⟨ret_bool (by simp), bel.trans ((b9.mono (by omega)).trans (ba.mono (by omega)))⟩
    · go_wp2_with fail
      go_ret
      exact ⟨ret_bool (by simp), bel.trans (b9.mono (by omega))⟩
end classAnswers
end Go.Proofs.Ytnijcglmfpiheaa
