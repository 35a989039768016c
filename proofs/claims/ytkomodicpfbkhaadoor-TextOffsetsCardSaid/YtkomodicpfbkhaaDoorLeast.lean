/-
  text.least, text.Offset: a place's offset. Conditions: the two tables of unicode/utf8; at most 100000 bytes.
-/
import Derived.Test.YtkomodicpfbkhaaDoorOffsetP
namespace Go.Proofs.YtkomodicpfbkhaaDoor
open Go.RowKit Go.Lib

theorem lineAt_behind (s : ByteArray) : lineTo s s.size = s.size ∧ posAt s ((linesP s).length + 1) = s.size := by
  refine ⟨?_, ?_⟩
  · unfold lineTo; rw [Nat.sub_self]; rfl
  · rw [posAt_succ, posAt_end, if_neg (Nat.lt_irrefl _)]
theorem lineLast_eq (s : ByteArray) (k : Nat) (hk : k < nlines s) : lineLast s k = if lineTo s (posAt s k) < posAt s (k + 1) then posAt s (k + 1) - 1 else posAt s (k + 1) := by
  unfold lineLast
  split
  · rfl
  · rename_i h
    have hke : k = (linesP s).length := by
      unfold nlines at hk; split at hk <;> omega
    obtain ⟨h1, h2⟩ := lineAt_behind s
    subst hke
    rw [h2, posAt_end, h1, if_neg (Nat.lt_irrefl _)]
def linesQ (s : ByteArray) : List LineP := linesP s ++ if behindB s then [⟨s.size, s.size, s.size⟩] else []
theorem linesQ_len (s : ByteArray) : (linesQ s).length = nlines s := by
  unfold linesQ nlines
  rw [List.length_append]
  split <;> simp
theorem linesQ_get (s : ByteArray) (k : Nat) (h : k < (linesQ s).length) : (linesQ s)[k] = ⟨posAt s k, lineTo s (posAt s k), posAt s (k + 1)⟩ := by
  by_cases hl : k < (linesP s).length
  · have : (linesQ s)[k] = (linesP s)[k] := List.getElem_append_left hl
    rw [this, (posAt_line s k hl).2]
  · have hn := h
    rw [linesQ_len] at hn
    unfold nlines at hn
    have hb : behindB s = true := by
      cases hb : behindB s
      · rw [hb] at hn; simp at hn; omega
      · rfl
    rw [hb] at hn
    simp at hn
    have hke : k = (linesP s).length := by omega
    obtain ⟨h1, h2⟩ := lineAt_behind s
    have e : linesQ s = linesP s ++ [⟨s.size, s.size, s.size⟩] := by unfold linesQ; rw [hb]; rfl
    have h3 : k < (linesP s ++ [(⟨s.size, s.size, s.size⟩ : LineP)]).length := by rw [← e]; exact h
    have : (linesQ s)[k] = (linesP s ++ [(⟨s.size, s.size, s.size⟩ : LineP)])[k] := by congr 1
    rw [this]
    subst hke
    rw [List.getElem_append_right (Nat.le_refl _)]
    simp only [Nat.sub_self, List.getElem_cons_zero]
    rw [h2, posAt_end, h1]

open Classical in
/-- What Offset answers. -/
noncomputable def offV (s : ByteArray) (L C : Int) : Value :=
  if 1 ≤ L ∧ L ≤ nlines s ∧ 1 ≤ C ∧ OffOk s (L.toNat - 1) (C.toNat - 1) then .tuple #[.int .i64 (offK s (L.toNat - 1) (C.toNat - 1)), .int .i64 0] else .tuple #[.int .i64 0, .int .i64 11]
theorem offV_line (s : ByteArray) (L C : Int) (h : L < 1 ∨ (nlines s : Int) < L ∨ C < 1) : offV s L C = .tuple #[.int .i64 0, .int .i64 11] := by
  unfold offV; rw [if_neg (by omega)]
theorem offV_ok (s : ByteArray) (k m : Nat) (hk : k < nlines s) (h : OffOk s k m) : offV s ((k : Int) + 1) ((m : Int) + 1) = .tuple #[.int .i64 (offK s k m), .int .i64 0] := by
  unfold offV
  have e1 : ((k : Int) + 1).toNat - 1 = k := by omega
  have e2 : ((m : Int) + 1).toNat - 1 = m := by omega
  rw [e1, e2, if_pos ⟨by omega, by omega, by omega, h⟩]
theorem offV_no (s : ByteArray) (k m : Nat) (h : ¬ OffOk s k m) : offV s ((k : Int) + 1) ((m : Int) + 1) = .tuple #[.int .i64 0, .int .i64 11] := by
  unfold offV
  have e1 : ((k : Int) + 1).toNat - 1 = k := by omega
  have e2 : ((m : Int) + 1).toNat - 1 = m := by omega
  rw [e1, e2, if_neg (fun hc => h hc.2.2.2)]
theorem offV_shape (s : ByteArray) (L C : Int) : ∃ a e : Int, offV s L C = .tuple #[.int .i64 a, .int .i64 e] := by
  unfold offV; split
  · exact ⟨_, _, rfl⟩
  · exact ⟨_, _, rfl⟩

set_option maxHeartbeats 4000000 in
set_option maxRecDepth 100000 in
theorem least_any (s : ByteArray) (hs : s.size ≤ 100000) (k m : Nat) (hm : m ≤ 200000) (hk : k < nlines s) (h : OffOk s k m) (cc : Int) (hcc : cc = (m : Int) + 1) (w : World) (hT : Tabs w) :
    Calls Tryd.prog 39 #[.string s, .int .i64 (posAt s k), .int .i64 (cpos s (posAt s k) m), .int .i64 cc] w fun e w' => e = .returned (.int .i64 (offK s k m)) ∧ Below w.heap.size w w' := by
  by_cases h0 : m = 0
  · subst h0
    subst hcc
    have e : offK s k 0 = posAt s k := by unfold offK; rw [if_pos rfl]
    rw [e]
    go_enter Tryd.func39, Tryd.ntmps39
    go_wp2_with fail
    go_ret
    exact ⟨rfl, Below.refl _ _⟩
  · obtain ⟨q, rfl⟩ : ∃ q, m = q + 1 := ⟨m - 1, by omega⟩
    have hq : cpos s (posAt s k) q < lineLast s k := by
      rcases h with h | h
      · omega
      · exact h
    have hl := lineLast_le s k
    have e : offK s k (q + 1) = cpos s (posAt s k) q + 1 := by unfold offK; rw [if_neg h0]; rfl
    have n0 : (cc == 1) = false := by simp; omega
    have n1 : cc - 2 = (q : Int) := by omega
    have N1 := Lib.hid n1
    clear hcc n1
    have n2 : 2 ≤ cc := by have := N1.out; omega
    have n3 : cc ≤ 300000 := by have := N1.out; omega
    rw [e]
    generalize cpos s (posAt s k) (q + 1) = top
    go_enter Tryd.func39, Tryd.ntmps39
    go_wp2_with fail
    go_loopw [9, 10, 11, 18] (fun sv _ _ iv wr => ∃ i : Nat, i ≤ q ∧ iv = .int .i64 i ∧ sv = .int .i64 (cpos s (posAt s k) i) ∧ Below w.heap.size w wr) (fun _ _ _ iv _ => q - (RowKit.intOf iv).toNat)
    case atStart => exact ⟨0, Nat.zero_le _, rfl, rfl, Below.refl _ _⟩
    case round =>
      obtain ⟨i, hi, rfl, rfl, hbw⟩ := hrel
      have hci := cpos_mono s (posAt s k) i q hi
      by_cases hlt : i < q
      · have n4 : (i : Int) < cc - 2 := by have := N1.out; omega
        have has : cpos s (posAt s k) i < s.size := by omega
        have HV := Lib.hid (runeV_dec s _ has)
        have HS := Lib.hid (cpos_succ s (posAt s k) i)
        have hwd := width_le4 s (cpos s (posAt s k) i)
        have hd1 := decode_le s (cpos s (posAt s k) i)
        have hTr := hT.below hbw
        have zr := hbw.size
        generalize cpos s (posAt s k) i = c at *
        generalize hr : (Utf8.decode s c).1 = r at *
        generalize hn : (Utf8.decode s c).2 = n at *
        clear hr hn
        go_wp2_with fail
        refine (text_rune_any s (by unfold maxLen; omega) _ _ hTr).mono ?_
        rintro e w5 ⟨rfl, b5⟩
        rw [HV.out]
        go_wp2_with fail
        go_roundw
        case rel => exact ⟨i + 1, by omega, by go_num, by rw [HS.out]; go_num, hbw.trans (b5.mono zr)⟩
        case measure => simp [RowKit.intOf]; omega
      · obtain rfl : i = q := by omega
        have n4 : ¬ (i : Int) < cc - 2 := by have := N1.out; omega
        go_wp2_with fail
        go_ret
        exact ⟨ret_int (by simp), hbw⟩
end Go.Proofs.YtkomodicpfbkhaaDoor
