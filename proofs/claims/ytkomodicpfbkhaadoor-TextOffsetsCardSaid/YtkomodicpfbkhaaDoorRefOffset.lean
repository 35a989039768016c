/-
  The reference's Offset: it answers what text.Offset does. Conditions: at most 100000 bytes.
-/
import Derived.Test.YtkomodicpfbkhaaDoorOffset
namespace Go.Proofs.YtkomodicpfbkhaaDoor
open Go.RowKit Go.Lib

theorem offV_found (s : ByteArray) (i : Nat) (hi : i ≤ s.size) (hno : ∀ j, j < i → ¬ (lineP s j = lineP s i ∧ colP s j = colP s i)) : offV s (lineP s i) (colP s i) = .tuple #[.int .i64 i, .int .i64 0] := by
  obtain ⟨k, m, h1, h2, hk, hok, hle, _⟩ := off_back s i hi
  obtain ⟨h3, h4, h5, h6⟩ := off_ok s k m hk hok
  have e : offK s k m = i := by
    by_cases hlt : offK s k m < i
    · exact absurd ⟨by omega, by omega⟩ (hno _ hlt)
    · omega
  rw [h1, h2]
  have := offV_ok s k m hk hok
  rw [e] at this
  exact this
theorem offV_none (s : ByteArray) (L C : Int) (hno : ∀ j, j ≤ s.size → ¬ ((lineP s j : Int) = L ∧ (colP s j : Int) = C)) : offV s L C = .tuple #[.int .i64 0, .int .i64 11] := by
  by_cases hb : L < 1 ∨ (nlines s : Int) < L ∨ C < 1
  · exact offV_line s L C hb
  · obtain ⟨k, rfl⟩ : ∃ k : Nat, L = (k : Int) + 1 := ⟨L.toNat - 1, by omega⟩
    obtain ⟨m, rfl⟩ : ∃ m : Nat, C = (m : Int) + 1 := ⟨C.toNat - 1, by omega⟩
    refine offV_no s k m fun hok => ?_
    obtain ⟨h3, h4, h5, _⟩ := off_ok s k m (by omega) hok
    exact hno _ h3 ⟨by omega, by omega⟩

theorem text_offset_any (s : ByteArray) (hs : s.size ≤ 100000) (L C : Int) (w : World) (hT : Tabs w) :
    Calls Tryd.prog 19 #[.string s, .agg #[.int .i64 L, .int .i64 C]] w fun e w' => e = .returned (offV s L C) ∧ Below w.heap.size w w' := by
  by_cases hb : L < 1 ∨ (nlines s : Int) < L ∨ C < 1
  · exact text_offset_err s hs L C hb w hT
  · obtain ⟨k, rfl⟩ : ∃ k : Nat, L = (k : Int) + 1 := ⟨L.toNat - 1, by omega⟩
    obtain ⟨m, rfl⟩ : ∃ m : Nat, C = (m : Int) + 1 := ⟨C.toNat - 1, by omega⟩
    exact text_offset_main s hs k m (by omega) w hT

set_option maxHeartbeats 8000000 in
set_option maxRecDepth 100000 in
theorem ref_offset_any (s : ByteArray) (hs : s.size ≤ 100000) (L C : Int) (w : World) :
    Calls Tryd.prog 20 #[.string s, .agg #[.int .i64 L, .int .i64 C]] w fun e w' => e = .returned (offV s L C) ∧ Below w.heap.size w w' := by
  have HF := Lib.hid (offV_found s)
  have HNo := Lib.hid (offV_none s L C)
  go_enter Tryd.func20, Tryd.ntmps20
  go_wp2_with fail
  go_loopw [6, 7, 8] (fun iv _ _ wr => ∃ i : Nat, i ≤ s.size + 1 ∧ iv = .int .i64 i ∧ wr.heap[w.heap.size]? = some (.cells #[.int .i64 L, .int .i64 C] 30) ∧ Below w.heap.size w wr ∧ RowKit.Hid (∀ j, j < i → ¬ ((lineP s j : Int) = L ∧ (colP s j : Int) = C))) (fun iv _ _ _ => s.size + 1 - (RowKit.intOf iv).toNat)
  case atStart => exact ⟨0, Nat.zero_le _, rfl, heap_alloc_new w _, (Below.refl _ w).alloc (Nat.le_refl _) _, Lib.hid (fun j hj => absurd hj (Nat.not_lt_zero _))⟩
  case round =>
    obtain ⟨i, hi, rfl, hblk, hbw, HI⟩ := hrel
    have zp := (Array.getElem?_eq_some_iff.1 hblk).1
    by_cases hle : i ≤ s.size
    · have HV := Lib.hid (atV_in s i hle)
      go_wp2_with fail
      refine (ref_at_any s hs _ _).mono ?_
      rintro e w1 ⟨rfl, b1⟩
      rw [HV.out]
      have z1 := b1.size
      have hbw1 : Below w.heap.size w w1 := hbw.trans (b1.mono (by omega))
      have hblk1 : w1.heap[w.heap.size]? = some (.cells #[.int .i64 L, .int .i64 C] 30) := (b1.block _ zp).trans hblk
      have hN : Below w1.heap.size w1 (w1.alloc (.cells #[.int .i64 (lineP s i : Int), .int .i64 (colP s i : Int)] 30)) := (Below.refl _ w1).alloc (Nat.le_refl _) _
      have hblk2 := (hN.block w.heap.size (by omega)).trans hblk1
      obtain ⟨q0, q1, _, _⟩ := block_two hblk2
      have hbw2 := hbw1.alloc (by omega) (.cells #[.int .i64 (lineP s i : Int), .int .i64 (colP s i : Int)] 30)
      by_cases heq : (lineP s i : Int) = L ∧ (colP s i : Int) = C
      · obtain ⟨hL, hC⟩ := heq
        have HE := Lib.hid (HF.out i hle (fun j hj hc => HI.out j hj ⟨by rw [hc.1]; exact hL, by rw [hc.2]; exact hC⟩))
        rw [hL, hC] at HE
        have e1 : ((lineP s i : Int) == L) = true := by simp [hL]
        have e2 : ((colP s i : Int) == C) = true := by simp [hC]
        clear hL hC
        generalize (lineP s i : Int) = a at *
        generalize (colP s i : Int) = b at *
        go_wp2_with fail
        go_ret2
        exact ⟨by rw [HE.out]; rfl, hbw2⟩
      · have HEQ := Lib.hid (show ∀ j, j < i + 1 → ¬ ((lineP s j : Int) = L ∧ (colP s j : Int) = C) by
          intro j hj
          by_cases hji : j = i
          · subst hji; exact heq
          · exact HI.out j (by omega))
        have hcs : ((lineP s i : Int) == L) = false ∨ ((lineP s i : Int) = L ∧ ((colP s i : Int) == C) = false) := by
          by_cases h : (lineP s i : Int) = L
          · refine .inr ⟨h, ?_⟩
            rw [beq_eq_false_iff_ne]
            exact fun hc => heq ⟨h, hc⟩
          · exact .inl (by rw [beq_eq_false_iff_ne]; exact h)
        clear heq HF HNo HI HV
        generalize (lineP s i : Int) = a at *
        generalize (colP s i : Int) = b at *
        rcases hcs with e1 | ⟨rfl, e2⟩
        · go_wp2_with fail
          go_roundw
          case rel => exact ⟨i + 1, by omega, by go_num, hblk2, hbw2, HEQ⟩
          case measure => simp [RowKit.intOf]; omega
        · go_wp2_with fail
          go_roundw
          case rel => exact ⟨i + 1, by omega, by go_num, hblk2, hbw2, HEQ⟩
          case measure => simp [RowKit.intOf]; omega
    · have HE := Lib.hid (HNo.out (fun j hj => HI.out j (by omega)))
      go_wp2_with fail
      go_ret2
      exact ⟨by rw [HE.out]; rfl, hbw⟩
end Go.Proofs.YtkomodicpfbkhaaDoor
