/-
  class.Fold: a label folded. Conditions: the two tables of unicode/utf8; at most 10000000 bytes.
-/
import Derived.Test.YtkomodicpfbkhaaDoorFoldP
import Derived.Test.YtkomodicpfbkhaaDoorBuilderW
import Derived.Test.YtkomodicpfbkhaaDoorTextRune
import Derived.BigCall
namespace Go.Proofs.YtkomodicpfbkhaaDoor
open Go.RowKit Go.Lib

theorem charsL_at (s : ByteArray) (pos : Nat) (h : pos < s.size) : charsL (s.data.toList.drop pos) = ((Utf8.decode s pos).1 : Int) :: charsL (s.data.toList.drop (pos + (Utf8.decode s pos).2)) := by
  rw [charsL_step _ (drop_ne s pos h), ← decode_drop, List.drop_drop]
theorem foldGo_len (ne : Bool) (cs : List Int) : foldGo true ne cs = foldGo ne ne cs := by
  cases ne
  · exact foldGo_none true false cs
  · rfl
theorem decode_isRune (s : ByteArray) (pos : Nat) : IsRune (Utf8.decode s pos).1 := by
  rw [decode_drop]; exact decodeL_isRune _
theorem strCells_bytes (l : List UInt8) : Lib.strCells ⟨l.toArray⟩ = Lib.byteCells l := rfl
theorem runeV_dec (s : ByteArray) (p : Nat) (hp : p < s.size) : runeV s p = .tuple #[.int .i64 (Utf8.decode s p).1, .int .i64 (Utf8.decode s p).2] := runeV_at s p hp _ _ rfl

theorem ownsRowF_below {w w' : World} {base n size : Nat} {e : TypeId} {v : Value} {xs : List Value} (h : w.ownsRowF base e size v n xs) (hb : Below w.heap.size w w') : w'.ownsRowF base e size v n xs := by
  refine ⟨h.1, ?_⟩
  rcases h.2 with hn | ⟨g, cap, cur, fz, hv, hg, hh, rest⟩
  · exact .inl hn
  · have hlt := (Array.getElem?_eq_some_iff.1 hh).1
    exact .inr ⟨g, cap, cur, fz, hv, hg, (hb.block g hlt).trans hh, rest⟩
theorem isB_below {B b : Nat} {bs : List Value} {w w' : World} (h : IsB B b bs w) (hb : Below w.heap.size w w') : IsB B b bs w' := by
  rcases h with h | h
  · have hlt := h.lt
    obtain ⟨hB, v, hbk, hown, hne⟩ := h
    exact .inl ⟨hB, v, (hb.block b hlt).trans hbk, ownsRowF_below hown hb, hne⟩
  · have hlt := h.lt
    obtain ⟨hB, v, hbk, hown, hne⟩ := h
    exact .inr ⟨hB, v, (hb.block b hlt).trans hbk, ownsRowF_below hown hb, hne⟩

set_option maxHeartbeats 4000000 in
set_option maxRecDepth 1000000 in
theorem foldS_any (s : ByteArray) (hs : s.size ≤ 10000000) (w : World) (hT : Tabs w) :
    Calls Tryd.prog 14 #[.string s] w fun e w' => e = .returned (.string ⟨(foldS s.data.toList).toArray⟩) ∧ Below w.heap.size w w' := by
  go_enter Tryd.func14, Tryd.ntmps14
  go_wp2_with fail
  go_loopw [4, 5, 6, 7] (fun gap at_ _ _ wr => ∃ (pos : Nat) (acc : List UInt8) (g : Bool), pos ≤ s.size ∧ at_ = .int .i64 pos ∧ gap = .bool g ∧ (g = true → acc ≠ []) ∧ IsB w.heap.size w.heap.size (Lib.byteCells acc) wr ∧ Below w.heap.size w wr ∧ acc ++ (foldGo g (decide (acc ≠ [])) (charsL (s.data.toList.drop pos))).flatMap encodeRune = foldS s.data.toList ∧ acc.length ≤ 9 * pos) (fun _ at_ _ _ _ => s.size - (RowKit.intOf at_).toNat)
  case atStart =>
    refine ⟨0, [], false, Nat.zero_le _, rfl, rfl, by simp, Lib.IsBuilderF.of (Lib.fresh_isBuilder 42 5 w), (Below.refl _ w).alloc (Nat.le_refl _) _, by simp [foldS], by simp⟩
  case round =>
    obtain ⟨pos, acc, g, hpos, rfl, rfl, hg, hI, hbw, hacc, hal⟩ := hrel
    have HA := Lib.hid hacc
    clear hacc
    have hTr := hT.below hbw
    have hws := hbw.size
    by_cases hp : pos < s.size
    · have HV := Lib.hid (runeV_dec s pos hp)
      have HC := Lib.hid (charsL_at s pos hp)
      have hir := decode_isRune s pos
      have hwd := width_at s pos
      have hde := decode_end s pos hp
      have hd1 := decode_le s pos
      generalize hr : (Utf8.decode s pos).1 = r at *
      generalize hn : (Utf8.decode s pos).2 = n at *
      clear hr hn
      go_wp2_with fail
      refine (text_rune_any s (by unfold maxLen; omega) _ _ hTr).mono ?_
      rintro e w1 ⟨rfl, b1⟩
      rw [HV.out]
      have hI1 := isB_below hI b1
      have z1 := b1.size
      have hTd := hTr.below b1
      go_wp2_with fail
      refine (blank_any _ _).mono ?_
      rintro e w2 ⟨rfl, b2⟩
      have hI2 := isB_below hI1 b2
      have z2 := b2.size
      have hb2 : Below w.heap.size w w2 := hbw.trans ((b1.mono hws).trans (b2.mono (by omega)))
      cases hbl : blankB r
      · have hf8 := foldB_le r
        have hfn : foldB r ≠ [] := by
          unfold foldB
          obtain ⟨x, xs, hx⟩ := List.exists_cons_of_ne_nil (foldZ_ne r)
          rw [hx]; simp [encodeRune_ne]
        cases g
        · have HG := Lib.hid (show foldGo false (decide (acc ≠ [])) (r :: charsL (s.data.toList.drop (pos + n))) = foldZ r ++ foldGo false true (charsL (s.data.toList.drop (pos + n))) by rw [foldGo_char _ _ _ _ hbl]; simp)
          go_wp2_with fail
          refine (fold_any r hir _).mono ?_
          rintro e w4 ⟨rfl, b4⟩
          have hI4 := isB_below hI2 b4
          have z4 := b4.size
          go_wp2_with fail
          refine (writeString_any w.heap.size w.heap.size _ _ _ hI4 (by rw [Lib.byteCells_length]; show _ + (foldB r).length ≤ _; omega) (by omega)).mono ?_
          rintro e w5 ⟨rfl, h5, b5, _⟩
          rw [strCells_bytes, ← Lib.byteCells_append] at h5
          go_wp2_with fail
          go_roundw
          case rel =>
            refine ⟨pos + n, acc ++ foldB r, false, by omega, by go_num, rfl, by simp, Or.inr h5, (hb2.trans (b4.mono (by omega))).trans b5, ?_, by simp; omega⟩
            have hne : decide (acc ++ foldB r ≠ []) = true := by simp [hfn]
            rw [hne, ← HA.out, HC.out, HG.out]
            simp [foldB, show encodeRune 32 = [32] from by decide]
          case measure => simp [RowKit.intOf]; omega
        · have HG := Lib.hid (show foldGo true (decide (acc ≠ [])) (r :: charsL (s.data.toList.drop (pos + n))) = 32 :: (foldZ r ++ foldGo false true (charsL (s.data.toList.drop (pos + n)))) by rw [foldGo_char _ _ _ _ hbl, decide_eq_true (hg rfl)]; rfl)
          go_wp2_with fail
          refine (writeByte_any w.heap.size w.heap.size _ 32 _ hI2 (by rw [Lib.byteCells_length]; omega) (by omega)).mono ?_
          rintro e w3 ⟨rfl, h3, b3, _⟩
          have hb3 := hb2.trans b3
          have z3 := b3.size
          have hI3 : IsB w.heap.size w.heap.size (Lib.byteCells (acc ++ [32])) w3 := by
            rw [Lib.byteCells_append]; exact Or.inr h3
          go_wp2_with fail
          refine (fold_any r hir _).mono ?_
          rintro e w4 ⟨rfl, b4⟩
          have hI4 := isB_below hI3 b4
          have z4 := b4.size
          go_wp2_with fail
          refine (writeString_any w.heap.size w.heap.size _ _ _ hI4 (by rw [Lib.byteCells_length]; simp only [List.length_append, List.length_cons, List.length_nil]; show _ + (foldB r).length ≤ _; omega) (by omega)).mono ?_
          rintro e w5 ⟨rfl, h5, b5, _⟩
          rw [strCells_bytes, ← Lib.byteCells_append] at h5
          go_wp2_with fail
          go_roundw
          case rel =>
            refine ⟨pos + n, (acc ++ [32]) ++ foldB r, false, by omega, by go_num, rfl, by simp, Or.inr h5, (hb3.trans (b4.mono (by omega))).trans b5, ?_, by simp; omega⟩
            have hne : decide ((acc ++ [32]) ++ foldB r ≠ []) = true := by simp [hfn]
            rw [hne, ← HA.out, HC.out, HG.out]
            simp [foldB, show encodeRune 32 = [32] from by decide]
          case measure => simp [RowKit.intOf]; omega
      · have HG := Lib.hid (show foldGo g (decide (acc ≠ [])) (r :: charsL (s.data.toList.drop (pos + n))) = foldGo (decide (acc ≠ [])) (decide (acc ≠ [])) (charsL (s.data.toList.drop (pos + n))) by rw [foldGo_blank _ _ _ _ hbl, foldGo_len])
        go_wp2_with fail
        refine (Tryd.Builder_Len_f w.heap.size w.heap.size _ _ hI2).mono ?_
        rintro e w3 ⟨rfl, hw3⟩
        subst hw3
        rw [Lib.byteCells_length]
        have hgb : decide (0 < acc.length) = decide (acc ≠ []) := by
          cases acc with
          | nil => rfl
          | cons a t => simp
        go_wp2_with fail
        go_roundw
        case rel => exact ⟨pos + n, acc, decide (acc ≠ []), by omega, by go_num, congrArg Value.bool (by simp), by simp, hI2, hb2, by rw [← HA.out, HC.out, HG.out], by omega⟩
        case measure => simp [RowKit.intOf]; omega
    · go_wp2_with (go_at_call 30; refine (Tryd.Builder_String_any_k w.heap.size w.heap.size acc _ hI (by omega)).mono ?_)
      rintro e W1 ⟨rfl, _, b1, _⟩
      go_wp2
      go_ret
      have hacc := HA.out
      rw [List.drop_of_length_le (by have e2 : s.data.size = s.size := rfl; simp; omega), charsL_nil] at hacc
      simp only [foldGo, List.flatMap_nil, List.append_nil] at hacc
      subst hacc
      exact ⟨rfl, hbw.trans b1⟩
end Go.Proofs.YtkomodicpfbkhaaDoor
