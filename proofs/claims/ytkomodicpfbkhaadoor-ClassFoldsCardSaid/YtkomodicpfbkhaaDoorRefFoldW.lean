/-
  The reference's Fold: it answers what class.Fold does. Conditions: at most 10000000 bytes.
-/
import Derived.Test.YtkomodicpfbkhaaDoorRefFold
namespace Go.Proofs.YtkomodicpfbkhaaDoor
open Go.RowKit Go.Lib

set_option maxHeartbeats 4000000 in
set_option maxRecDepth 1000000 in
theorem ref_foldS_any (s : ByteArray) (hs : s.size ≤ 10000000) (w : World) :
    Calls Tryd.prog 15 #[.string s] w fun e w' => e = .returned (.string ⟨(foldS s.data.toList).toArray⟩) ∧ Below w.heap.size w w' := by
  obtain ⟨i0, hi, hz0, hz1, hz2⟩ := info_parts infoByte
  go_enter Tryd.func15, Tryd.ntmps15
  go_wp2_with fail
  go_loopw [3, 4, 5, 6, 7] (fun out gap at_ _ _ wr => ∃ (pos : Nat) (acc : List UInt8) (gg : Bool) (g cap : Nat), pos ≤ s.size ∧ out = .slice (some ⟨g, 0, none⟩) acc.length cap ∧ gap = .bool gg ∧ at_ = .int .i64 pos ∧ wr.ownsRow w.heap.size 5 1 (.slice (some ⟨g, 0, none⟩) acc.length cap) acc.length (byteCells acc) ∧ Below w.heap.size w wr ∧ acc ++ (foldGo gg (decide (acc ≠ [])) (charsL (s.data.toList.drop pos))).flatMap encodeRune = foldS s.data.toList ∧ acc.length ≤ 9 * pos) (fun _ _ at_ _ _ _ => s.size - (RowKit.intOf at_).toNat)
  case atStart =>
    exact ⟨0, [], false, w.heap.size, 0, Nat.zero_le _, rfl, rfl, rfl, ⟨rfl, .inr ⟨w.heap.size, 0, #[], rfl, Nat.le_refl _, heap_alloc_new w _, Nat.le_refl _, by decide, rfl, rfl⟩⟩, (Below.refl _ _).alloc (Nat.le_refl _) _, by simp [foldS], by simp⟩
  case round =>
    obtain ⟨pos, acc, gg, g, cap, hpos, rfl, rfl, rfl, hown, hbw, hacc, hal⟩ := hrel
    have HA := Lib.hid hacc
    clear hacc
    have hws := hbw.size
    by_cases hp : pos < s.size
    · have HV := Lib.hid (runeV_dec s pos hp)
      have HC := Lib.hid (charsL_at s pos hp)
      have hir := decode_isRune s pos
      have hwd := width_at s pos
      have hde := decode_end s pos hp
      have hd1 := decode_le s pos
      generalize hr : (Utf8.decode s pos).1 = r at *
      generalize hn : (Utf8.decode s pos).2 = n at *
      clear hr hn
      go_wp2_with fail
      refine (ref_rune_any s (by unfold maxLen; omega) _ _).mono ?_
      rintro e w1 ⟨rfl, b1⟩
      rw [HV.out]
      have hown1 := ownsRow_below hown b1
      have z1 := b1.size
      have hb1 := hbw.trans (b1.mono hws)
      go_wp2_with fail
      refine (ref_blank_any _ _).mono ?_
      rintro e w2 ⟨rfl, hw2⟩
      subst hw2
      cases hbl : blankB r
      · have hf8 := foldB_le r
        have hfn : foldB r ≠ [] := by
          unfold foldB
          obtain ⟨x, xs, hx⟩ := List.exists_cons_of_ne_nil (foldZ_ne r)
          rw [hx]; simp [encodeRune_ne]
        have hfp : 0 < (foldB r).length := List.length_pos_iff.2 hfn
        by_cases hgb : gg = true ∧ 0 < acc.length
        · obtain ⟨rfl, hap⟩ := hgb
          have hane : acc ≠ [] := List.length_pos_iff.1 hap
          have HG := Lib.hid (show foldGo true (decide (acc ≠ [])) (r :: charsL (s.data.toList.drop (pos + n))) = 32 :: (foldZ r ++ foldGo false true (charsL (s.data.toList.drop (pos + n)))) by rw [foldGo_char _ _ _ _ hbl, decide_eq_true hane]; rfl)
          have hone : ∀ u ∈ byteCells (foldB r), u.oneCell' = true := by
            intro u hu
            obtain ⟨x, _, rfl⟩ := List.mem_map.1 hu
            rfl
          go_wp2_with (first | (at_builtin; (refine wpList_append_own _ rfl _ _ 37 rfl w.heap.size 5 i0 (.int .u8 0) 1 1 Tryd.underlying37 hi hz0 hz1 hz2 rfl (by decide) _ _ _ rfl (hown1.alloc _) ⟨w1.heap.size, 0, none⟩ 1 1 [.int .u8 32] rfl rfl (new_one _ _ _) (by decide) (by unfold maxLen; omega) (by omega) (by simp; omega) ?_); intro v' w2 hown' hgrow _; obtain ⟨g', cap', hv⟩ := owns_form hown' (by omega); subst hv; have hb2 : Below w.heap.size w w2 := (hb1.alloc (by omega) _).grown hgrow (by simp; omega) (fun k hk => by have := ownsRow_lt (hown1.alloc (.cells #[.int .u8 32] 5)) hk; omega); have hz2' : w1.heap.size + 1 ≤ w2.heap.size := (by have := hgrow.size; simpa using this)) | (go_at_call 32; refine (ref_fold_any r hir _).mono ?_; rintro e w4 ⟨gf, rfl, hst, b4⟩; have hown4 := ownsRow_below hown' b4; have z4 := b4.size; have HST := Lib.hid hst) | (at_builtin; (refine wpList_append_own _ rfl _ _ 37 rfl w.heap.size 5 i0 (.int .u8 0) 1 1 Tryd.underlying37 hi hz0 hz1 hz2 rfl (by decide) _ _ _ rfl hown4 ⟨gf, 0, none⟩ (foldB r).length (foldB r).length (byteCells (foldB r)) rfl (by simp [byteCells]) HST.out hone (by unfold maxLen; omega) (by omega) (by omega) ?_); intro v' w5 hown5 hgrow5 _; obtain ⟨g5, cap5, hv⟩ := owns_form hown5 (by omega); subst hv))
          go_roundw
          case rel =>
            refine ⟨pos + n, (acc ++ [32]) ++ foldB r, false, g5, cap5, by omega, by simp <;> omega, rfl, by go_num, ?_, ?_, ?_, by simp <;> omega⟩
            · rw [show ((acc ++ ([32] : List UInt8)) ++ foldB r).length = acc.length + 1 + (foldB r).length from (by simp; omega), byteCells_append, byteCells_append]
              simpa [byteCells] using hown5
            · exact (hb2.trans (b4.mono (by omega))).grown hgrow5 (by omega) (fun k hk => by have := ownsRow_lt hown4 hk; omega)
            · have hne : decide ((acc ++ [32]) ++ foldB r ≠ []) = true := by simp [hfn]
              rw [hne, ← HA.out, HC.out, HG.out]
              simp [foldB, show encodeRune 32 = [32] from by decide]
          case measure => simp [RowKit.intOf]; omega
        · have HG := Lib.hid (show foldGo gg (decide (acc ≠ [])) (r :: charsL (s.data.toList.drop (pos + n))) = foldZ r ++ foldGo false true (charsL (s.data.toList.drop (pos + n))) by
            rw [foldGo_char _ _ _ _ hbl]
            have : (gg && decide (acc ≠ [])) = false := by
              cases gg
              · rfl
              · cases acc with
                | nil => rfl
                | cons x t => exact absurd ⟨rfl, by simp⟩ hgb
            rw [this]; simp)
          have hgo : gg = false ∨ (gg = true ∧ decide (0 < acc.length) = false ∧ decide ((0 : Int) < (acc.length : Int)) = false) := by
            cases gg
            · exact .inl rfl
            · exact .inr ⟨rfl, decide_eq_false (fun h => hgb ⟨rfl, h⟩), decide_eq_false (fun h => hgb ⟨rfl, by omega⟩)⟩
          clear hgb
          rcases hgo with rfl | ⟨rfl, d1, d2⟩
          all_goals
            have hone : ∀ u ∈ byteCells (foldB r), u.oneCell' = true := by
              intro u hu
              obtain ⟨x, _, rfl⟩ := List.mem_map.1 hu
              rfl
            go_wp2_with (first | (go_at_call 32; refine (ref_fold_any r hir _).mono ?_; rintro e w4 ⟨gf, rfl, hst, b4⟩; have hown4 := ownsRow_below hown1 b4; have z4 := b4.size; have HST := Lib.hid hst) | (at_builtin; (refine wpList_append_own _ rfl _ _ 37 rfl w.heap.size 5 i0 (.int .u8 0) 1 1 Tryd.underlying37 hi hz0 hz1 hz2 rfl (by decide) _ _ _ rfl hown4 ⟨gf, 0, none⟩ (foldB r).length (foldB r).length (byteCells (foldB r)) rfl (by simp [byteCells]) HST.out hone (by unfold maxLen; omega) (by omega) (by omega) ?_); intro v' w5 hown5 hgrow5 _; obtain ⟨g5, cap5, hv⟩ := owns_form hown5 (by omega); subst hv))
            go_roundw
            case rel =>
              refine ⟨pos + n, acc ++ foldB r, false, g5, cap5, by omega, by simp <;> omega, rfl, by go_num, ?_, ?_, ?_, by simp <;> omega⟩
              · rw [show (acc ++ foldB r).length = acc.length + (foldB r).length by simp, byteCells_append]
                simpa [byteCells] using hown5
              · exact (hb1.trans (b4.mono (by omega))).grown hgrow5 (by omega) (fun k hk => by have := ownsRow_lt hown4 hk; omega)
              · have hne : decide (acc ++ foldB r ≠ []) = true := by simp [hfn]
                rw [hne, ← HA.out, HC.out, HG.out]
                simp [foldB, show encodeRune 32 = [32] from by decide]
            case measure => simp [RowKit.intOf]; omega

      · have HG := Lib.hid (show foldGo gg (decide (acc ≠ [])) (r :: charsL (s.data.toList.drop (pos + n))) = foldGo true (decide (acc ≠ [])) (charsL (s.data.toList.drop (pos + n))) by rw [foldGo_blank _ _ _ _ hbl])
        go_wp2_with fail
        go_roundw
        case rel => exact ⟨pos + n, acc, true, g, cap, by omega, rfl, rfl, by go_num, hown1, hb1, by rw [← HA.out, HC.out, HG.out], by omega⟩
        case measure => simp [RowKit.intOf]; omega
    · have hcv := run_convert_bytes_arg (P := Tryd.prog) wr 37 5 Tryd.underlying37 Tryd.underlying5 g 0 acc.length cap (acc.map fun b => (b.toNat : Int)) (by simp) (by
        intro i hi
        have := hown.cellAt i (by omega)
        rw [Nat.zero_add, this]
        simp [byteCells, List.getD, List.getElem?_eq_getElem hi]) 9 Tryd.underlying9
      go_wp2
      go_ret
      have hacc := HA.out
      rw [List.drop_of_length_le (by have e2 : s.data.size = s.size := rfl; simp; omega), charsL_nil] at hacc
      simp only [foldGo, List.flatMap_nil, List.append_nil] at hacc
      subst hacc
      refine ⟨?_, hbw⟩
      rw [← strOfNums_bytes]; rfl
end Go.Proofs.YtkomodicpfbkhaaDoor
