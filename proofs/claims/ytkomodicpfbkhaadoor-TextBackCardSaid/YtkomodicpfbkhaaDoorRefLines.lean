/-
  The reference's Lines: the same lines. Conditions: at most 1000000 bytes.
-/
import Derived.Test.YtkomodicpfbkhaaDoorLines
namespace Go.Proofs.YtkomodicpfbkhaaDoor
open Go.RowKit Go.Lib

theorem crlfAt_not (s : ByteArray) (q : Nat) (h : q < s.size) (h2 : (s[q]).toNat ≠ 13) : crlfAt s q = false := by
  have : ¬ s.get! q = 13 := by rw [bang_get s q h]; intro e; rw [e] at h2; exact h2 rfl
  simp [crlfAt, this]
theorem crlfAt_end (s : ByteArray) (q : Nat) (h : ¬ q + 1 < s.size) : crlfAt s q = false := by simp [crlfAt, h]
theorem crlfAt_two (s : ByteArray) (q : Nat) (h : q + 1 < s.size) (h2 : (s[q]).toNat = 13) : crlfAt s q = decide ((s[q + 1]).toNat = 10) := by
  have e : s.get! q = 13 := by rw [bang_get s q (by omega)]; exact UInt8.toNat_inj.1 h2
  by_cases h3 : (s[q + 1]).toNat = 10
  · have e2 : s.get! (q + 1) = 10 := by rw [bang_get s _ h]; exact UInt8.toNat_inj.1 h3
    simp [crlfAt, h, e, e2, h3]
  · have e2 : ¬ s.get! (q + 1) = 10 := by rw [bang_get s _ h]; intro e4; rw [e4] at h3; exact h3 rfl
    simp [crlfAt, h, e, e2, h3]
theorem lineTo_at (s : ByteArray) (p t : Nat) (h1 : p ≤ t) (h2 : t < s.size) (h3 : ∀ k, p ≤ k → k < t → isEol (s.get! k) = false) (h4 : (s[t]).toNat = 10 ∨ (s[t]).toNat = 13) : lineTo s p = t :=
  lineTo_is s p t h1 (by omega) h3 fun _ => by rw [bang_get s t h2, isEol_iff]; omega

set_option maxHeartbeats 4000000 in
set_option maxRecDepth 1000000 in
theorem ref_lines_any (s : ByteArray) (hs : s.size ≤ 1000000) (w : World) :
    Calls Tryd.prog 38 #[.string s] w fun e w' => (∃ v, e = .returned v ∧ w'.ownsRow w.heap.size 58 3 v (linesP s).length (lineCells (linesP s))) ∧ Below w.heap.size w w' := by
  obtain ⟨i0, hi, hz0, hz1, hz2⟩ := info_parts infoLine
  go_enter Tryd.func38, Tryd.ntmps38
  go_wp2_with fail
  go_loopw [3, 4, 5, 6] (fun out from_ _ _ wr => ∃ (p : Nat) (acc : List LineP), p ≤ s.size ∧ from_ = .int .i64 p ∧ wr.ownsRow w.heap.size 58 3 out acc.length (lineCells acc) ∧ Below w.heap.size w wr ∧ acc ++ linesFrom s p = linesP s ∧ acc.length ≤ p) (fun _ from_ _ _ _ => s.size - (RowKit.intOf from_).toNat)
  case atStart => 
    refine ⟨0, [], Nat.zero_le _, rfl, ⟨rfl, .inr ⟨w.heap.size, 0, #[], rfl, Nat.le_refl _, heap_alloc_new w _, Nat.le_refl _, by decide, rfl, rfl⟩⟩, (Below.refl _ _).alloc (Nat.le_refl _) _, rfl, by simp⟩
  case round =>
    obtain ⟨p, acc, hp, rfl, hown, hb, hacc, hal⟩ := hrel
    have HA := Lib.hid hacc
    clear hacc
    by_cases hlt : p < s.size
    · have HL := Lib.hid (linesFrom_in s p hlt)
      have hws := hb.size
      go_wp2_with fail
      go_loopw [5] (fun to_ wx => ∃ t : Nat, p ≤ t ∧ t ≤ s.size ∧ to_ = .int .i64 t ∧ wx = wr ∧ ∀ k, p ≤ k → k < t → isEol (s.get! k) = false) (fun to_ _ => s.size - (RowKit.intOf to_).toNat)
      case atStart => exact ⟨p, Nat.le_refl _, by omega, rfl, rfl, fun k h1 h2 => by omega⟩
      case round =>
        obtain ⟨t, hpt, hts, rfl, rfl, hno⟩ := hrel
        have HN := Lib.hid hno
        clear hno
        by_cases hlt2 : t < s.size
        · have hb1 := (s[t]).toNat_lt
          by_cases c10 : (s[t]).toNat = 10
          · have HT := Lib.hid (lineTo_at s p t hpt hlt2 HN.out (Or.inl c10))
            have HE := Lib.hid (show lineEnd s t = t + 1 by unfold lineEnd; rw [if_pos hlt2, crlfAt_not s t hlt2 (by omega)]; rfl)
            go_wp2_with (at_builtin; (refine wpList_append_own _ rfl _ _ 54 rfl w.heap.size 58 i0 (.agg #[.int .i64 0, .int .i64 0, .int .i64 0]) 3 24 Tryd.underlying54 hi hz0 hz1 hz2 rfl (by decide) _ _ _ rfl (hown.alloc _) ⟨wr.heap.size, 0, none⟩ 1 1 [.int .i64 p, .int .i64 t, .int .i64 ((t : Int) + 1)] rfl rfl (new_three' _ _ _ _ _ _ rfl) (one_three _ _ _) (by unfold maxLen; omega) (by omega) (by first | omega | (simp; omega)) ?_); intro v' w2 hown' hgrow _)
            go_roundw
            case rel =>
              refine ⟨t + 1, acc ++ [⟨p, t, t + 1⟩], by omega, by go_num, ?_, (hb.alloc hb.size _).grown hgrow (by first | omega | (simp; omega)) (fun k hk => (ownsRow_lt hown hk).1), ?_, by simp; omega⟩
              · rw [lineCells_append, List.length_append]; exact hown'
              · rw [← HA.out, HL.out, HT.out, HE.out]; simp
            case measure => simp [RowKit.intOf]; omega
          · by_cases c13 : (s[t]).toNat = 13
            · have HT := Lib.hid (lineTo_at s p t hpt hlt2 HN.out (Or.inr c13))
              have n10 : (((s[t]).toNat : Int) != 10) = true := by simp; omega
              have n13 : (((s[t]).toNat : Int) != 13) = false := by simp; omega
              have m13 : (((s[t]).toNat : Int) == 13) = true := by simp; omega
              by_cases hl3 : t + 1 < s.size
              · have hb3 := (s[t + 1]).toNat_lt
                have HC := Lib.hid (crlfAt_two s t hl3 c13)
                by_cases d10 : (s[t + 1]).toNat = 10
                · have HE := Lib.hid (show lineEnd s t = t + 2 by unfold lineEnd; rw [if_pos hlt2, HC.out, d10]; rfl)
                  have m10 : (((s[t + 1]).toNat : Int) == 10) = true := by simp; omega
                  go_wp2_with (at_builtin; (refine wpList_append_own _ rfl _ _ 54 rfl w.heap.size 58 i0 (.agg #[.int .i64 0, .int .i64 0, .int .i64 0]) 3 24 Tryd.underlying54 hi hz0 hz1 hz2 rfl (by decide) _ _ _ rfl (hown.alloc _) ⟨wr.heap.size, 0, none⟩ 1 1 [.int .i64 p, .int .i64 t, .int .i64 ((t : Int) + 1 + 1)] rfl rfl (new_three' _ _ _ _ _ _ rfl) (one_three _ _ _) (by unfold maxLen; omega) (by omega) (by first | omega | (simp; omega)) ?_); intro v' w2 hown' hgrow _)
                  go_roundw
                  case rel =>
                    refine ⟨t + 2, acc ++ [⟨p, t, t + 2⟩], by omega, by go_num, ?_, (hb.alloc hb.size _).grown hgrow (by first | omega | (simp; omega)) (fun k hk => (ownsRow_lt hown hk).1), ?_, by simp; omega⟩
                    · rw [lineCells_append, List.length_append]; exact hown'
                    · rw [← HA.out, HL.out, HT.out, HE.out]; simp
                  case measure => simp [RowKit.intOf]; omega
                · have HE := Lib.hid (show lineEnd s t = t + 1 by unfold lineEnd; rw [if_pos hlt2, HC.out, decide_eq_false d10]; rfl)
                  have m10 : (((s[t + 1]).toNat : Int) == 10) = false := by simp; omega
                  go_wp2_with (at_builtin; (refine wpList_append_own _ rfl _ _ 54 rfl w.heap.size 58 i0 (.agg #[.int .i64 0, .int .i64 0, .int .i64 0]) 3 24 Tryd.underlying54 hi hz0 hz1 hz2 rfl (by decide) _ _ _ rfl (hown.alloc _) ⟨wr.heap.size, 0, none⟩ 1 1 [.int .i64 p, .int .i64 t, .int .i64 ((t : Int) + 1)] rfl rfl (new_three' _ _ _ _ _ _ rfl) (one_three _ _ _) (by unfold maxLen; omega) (by omega) (by first | omega | (simp; omega)) ?_); intro v' w2 hown' hgrow _)
                  go_roundw
                  case rel =>
                    refine ⟨t + 1, acc ++ [⟨p, t, t + 1⟩], by omega, by go_num, ?_, (hb.alloc hb.size _).grown hgrow (by first | omega | (simp; omega)) (fun k hk => (ownsRow_lt hown hk).1), ?_, by simp; omega⟩
                    · rw [lineCells_append, List.length_append]; exact hown'
                    · rw [← HA.out, HL.out, HT.out, HE.out]; simp
                  case measure => simp [RowKit.intOf]; omega
              · have HE := Lib.hid (show lineEnd s t = t + 1 by unfold lineEnd; rw [if_pos hlt2, crlfAt_end s t hl3]; rfl)
                go_wp2_with (at_builtin; (refine wpList_append_own _ rfl _ _ 54 rfl w.heap.size 58 i0 (.agg #[.int .i64 0, .int .i64 0, .int .i64 0]) 3 24 Tryd.underlying54 hi hz0 hz1 hz2 rfl (by decide) _ _ _ rfl (hown.alloc _) ⟨wr.heap.size, 0, none⟩ 1 1 [.int .i64 p, .int .i64 t, .int .i64 ((t : Int) + 1)] rfl rfl (new_three' _ _ _ _ _ _ rfl) (one_three _ _ _) (by unfold maxLen; omega) (by omega) (by first | omega | (simp; omega)) ?_); intro v' w2 hown' hgrow _)
                go_roundw
                case rel =>
                  refine ⟨t + 1, acc ++ [⟨p, t, t + 1⟩], by omega, by go_num, ?_, (hb.alloc hb.size _).grown hgrow (by first | omega | (simp; omega)) (fun k hk => (ownsRow_lt hown hk).1), ?_, by simp; omega⟩
                  · rw [lineCells_append, List.length_append]; exact hown'
                  · rw [← HA.out, HL.out, HT.out, HE.out]; simp
                case measure => simp [RowKit.intOf]; omega
            · have HE := Lib.hid (show isEol (s.get! t) = false by rw [bang_get s t hlt2]; rw [Bool.eq_false_iff]; intro h; rw [isEol_iff] at h; omega)
              have n10 : (((s[t]).toNat : Int) != 10) = true := by simp; omega
              have n13 : (((s[t]).toNat : Int) != 13) = true := by simp; omega
              go_wp2_with fail
              go_roundw
              case rel => exact ⟨t + 1, by omega, by omega, by go_num, by first | rfl | trivial, fun k h1 h2 => by
                by_cases e : k = t
                · subst e; exact HE.out
                · exact HN.out k h1 (by omega)⟩
              case measure => simp [RowKit.intOf]; omega
        · obtain rfl : t = s.size := by omega
          have HT := Lib.hid (lineTo_is s p s.size hpt (Nat.le_refl _) HN.out (fun h => by omega))
          have HE := Lib.hid (show lineEnd s s.size = s.size by unfold lineEnd; rw [if_neg (by omega)])
          go_wp2_with (at_builtin; (refine wpList_append_own _ rfl _ _ 54 rfl w.heap.size 58 i0 (.agg #[.int .i64 0, .int .i64 0, .int .i64 0]) 3 24 Tryd.underlying54 hi hz0 hz1 hz2 rfl (by decide) _ _ _ rfl (hown.alloc _) ⟨wr.heap.size, 0, none⟩ 1 1 [.int .i64 p, .int .i64 s.size, .int .i64 s.size] rfl rfl (new_three' _ _ _ _ _ _ rfl) (one_three _ _ _) (by unfold maxLen; omega) (by omega) (by first | omega | (simp; omega)) ?_); intro v' w2 hown' hgrow _)
          go_roundw
          case rel =>
            refine ⟨s.size, acc ++ [⟨p, s.size, s.size⟩], by omega, by go_num, ?_, (hb.alloc hb.size _).grown hgrow (by first | omega | (simp; omega)) (fun k hk => (ownsRow_lt hown hk).1), ?_, by simp; omega⟩
            · rw [lineCells_append, List.length_append]; exact hown'
            · rw [← HA.out, HL.out, HT.out, HE.out]; simp
          case measure => simp [RowKit.intOf]; omega
    · go_wp2
      go_ret
      have hacc := HA.out
      rw [linesFrom_out s p hlt, List.append_nil] at hacc
      subst hacc
      exact ⟨⟨_, rfl, hown⟩, hb⟩
end Go.Proofs.YtkomodicpfbkhaaDoor
