/-
  A place's offset, as a plain function; it is the least offset with that place. Conditions: none.
-/
import Derived.Test.YtkomodicpfbkhaaDoorRefAt
namespace Go.Proofs.YtkomodicpfbkhaaDoor
open Go.Lib

theorem width_le4 (s : ByteArray) (p : Nat) : (Utf8.decode s p).2 ≤ 4 := by
  rw [decode_at]
  rcases decodeN_shape (s.size - p) (s.get! p).toNat (s.get! (p + 1)).toNat (s.get! (p + 2)).toNat (s.get! (p + 3)).toNat with ⟨_, e⟩ | ⟨_, _, _, _, e⟩ | ⟨_, _, _, _, _, _, e⟩ | ⟨_, _, _, _, _, _, _, e⟩ | e
  all_goals (rw [e]; simp)

/-- Where the characters from an offset on begin. -/
def cpos (s : ByteArray) (f : Nat) : Nat → Nat
  | 0 => f
  | j + 1 => cpos s f j + (Utf8.decode s (cpos s f j)).2
theorem cpos_succ (s : ByteArray) (f j : Nat) : cpos s f (j + 1) = cpos s f j + (Utf8.decode s (cpos s f j)).2 := rfl
theorem cpos_shift (s : ByteArray) (f : Nat) : ∀ j, cpos s f (j + 1) = cpos s (f + (Utf8.decode s f).2) j
  | 0 => rfl
  | j + 1 => by rw [cpos_succ, cpos_shift s f j]; rfl
theorem cpos_lt (s : ByteArray) (f j : Nat) : cpos s f j < cpos s f (j + 1) := by
  rw [cpos_succ]; have := width_at s (cpos s f j); omega
theorem cpos_mono (s : ByteArray) (f i j : Nat) (h : i ≤ j) : cpos s f i ≤ cpos s f j := by
  obtain ⟨n, rfl⟩ := Nat.exists_eq_add_of_le h
  induction n with
  | zero => exact Nat.le_refl _
  | succ n ih => have := ih (by omega); have := cpos_lt s f (i + n); show _ ≤ cpos s f ((i + n) + 1); omega
theorem cpos_ge (s : ByteArray) (f j : Nat) : f + j ≤ cpos s f j := by
  induction j with
  | zero => exact Nat.le_refl _
  | succ j ih => have := cpos_lt s f j; omega

theorem steps_iff (s : ByteArray) (o : Nat) : ∀ m f, steps s f o = m ↔ (m = 0 ∧ o ≤ f) ∨ (0 < m ∧ cpos s f (m - 1) < o ∧ o ≤ cpos s f m)
  | 0, f => by
    by_cases h : f < o
    · have := steps_go s f o h
      constructor
      · intro h2; omega
      · rintro (⟨_, h2⟩ | ⟨h2, _⟩) <;> omega
    · have := steps_stop s f o (by omega)
      constructor
      · intro _; exact .inl ⟨rfl, by omega⟩
      · intro _; exact this
  | m + 1, f => by
    by_cases h : f < o
    · have hg := steps_go s f o h
      have ih := steps_iff s o m (f + (Utf8.decode s f).2)
      have e1 := cpos_shift s f m
      have e2 : cpos s f (m + 1 - 1) < o ↔ (m = 0 ∨ (0 < m ∧ cpos s (f + (Utf8.decode s f).2) (m - 1) < o)) := by
        cases m with
        | zero => exact ⟨fun _ => .inl rfl, fun _ => h⟩
        | succ m => rw [Nat.add_sub_cancel, cpos_shift]; simp
      rw [e1, e2]
      constructor
      · intro h2
        have h3 := ih.1 (by omega)
        refine .inr ⟨by omega, ?_⟩
        rcases h3 with ⟨h4, h5⟩ | ⟨h4, h5, h6⟩
        · refine ⟨.inl h4, ?_⟩; rw [h4]; exact h5
        · exact ⟨.inr ⟨h4, h5⟩, h6⟩
      · rintro (⟨h2, _⟩ | ⟨_, h3, h4⟩)
        · omega
        · have : steps s (f + (Utf8.decode s f).2) o = m := by
            refine ih.2 ?_
            rcases h3 with h5 | ⟨h5, h6⟩
            · refine .inl ⟨h5, ?_⟩; rw [h5] at h4; exact h4
            · exact .inr ⟨h5, h6, h4⟩
          omega
    · have h0 := steps_stop s f o (by omega)
      constructor
      · intro h2; omega
      · rintro (⟨h2, _⟩ | ⟨_, h3, _⟩)
        · omega
        · have := cpos_ge s f (m + 1 - 1); omega

/-- How many lines there are, the one behind the last end with them. -/
def nlines (s : ByteArray) : Nat := (linesP s).length + if behindB s then 1 else 0
/-- The greatest offset of a line. -/
def lineLast (s : ByteArray) (k : Nat) : Nat := if k < (linesP s).length then (if lineTo s (posAt s k) < posAt s (k + 1) then posAt s (k + 1) - 1 else posAt s (k + 1)) else s.size
theorem lineLast_ge (s : ByteArray) (k : Nat) : posAt s k ≤ lineLast s k := by
  unfold lineLast
  split
  · rename_i h
    have := posAt_lt s k (posAt_line s k h).1
    split <;> omega
  · exact posAt_le s k
theorem lineLast_le (s : ByteArray) (k : Nat) : lineLast s k ≤ s.size := by
  unfold lineLast
  have := posAt_le s (k + 1)
  split
  · split <;> omega
  · omega

theorem line_iff (s : ByteArray) (j k : Nat) (hj : j ≤ s.size) (hk : k < nlines s) : lineP s j = k + 1 ↔ posAt s k ≤ j ∧ j ≤ lineLast s k := by
  unfold nlines at hk
  by_cases hl : k < (linesP s).length
  · have h0 := (posAt_line s k hl).1
    have hz : 0 < s.size := by omega
    have hlt := posAt_lt s k h0
    unfold lineLast
    rw [if_pos hl]
    constructor
    · intro h
      by_cases hb : j = s.size ∧ behindB s = true
      · have := (place_behind s j hb.1 hb.2).1; omega
      · have hin := lineIx_spec s j hj hz
        have hx : lineIx s j = k := by unfold lineP at h; rw [if_neg hb] at h; omega
        rw [hx] at hin
        obtain ⟨a, b, c⟩ := hin
        refine ⟨b, ?_⟩
        rcases c with c | ⟨c, d⟩
        · split <;> omega
        · have e := last_ended s k d
          have hbf : behindB s = false := by
            cases hbb : behindB s
            · rfl
            · exact absurd ⟨c, hbb⟩ hb
          rw [hbf] at e
          have e2 := of_decide_eq_false e.symm
          rw [if_neg e2, d, posAt_end]; omega
    · rintro ⟨h1, h2⟩
      by_cases he : lineTo s (posAt s k) < posAt s (k + 1)
      · rw [if_pos he] at h2
        have h3 := posAt_le s (k + 1)
        exact (place_in s j k hj (by omega) ⟨hl, h1, .inl (by omega)⟩).1
      · rw [if_neg he] at h2
        have hlast : k + 1 = (linesP s).length := by
          by_cases hc : k + 1 < (linesP s).length
          · exact absurd (inner_ended s k hc) he
          · omega
        have e := last_ended s k hlast
        rw [decide_eq_false he] at e
        have hend : posAt s (k + 1) = s.size := by rw [hlast, posAt_end]
        refine (place_in s j k hj (by rw [e]; simp) ⟨hl, h1, ?_⟩).1
        by_cases hjj : j < posAt s (k + 1)
        · exact .inl hjj
        · exact .inr ⟨by omega, hlast⟩
  · have hbh : behindB s = true := by
      cases hb : behindB s
      · rw [hb] at hk; simp at hk; omega
      · rfl
    have hke : k = (linesP s).length := by rw [hbh] at hk; simp at hk; omega
    have hp : posAt s k = s.size := by rw [hke, posAt_end]
    unfold lineLast
    rw [if_neg hl, hp]
    constructor
    · intro h
      by_cases hb : j = s.size
      · omega
      · have hz : 0 < s.size := by omega
        have hin := lineIx_spec s j hj hz
        unfold lineP at h
        rw [if_neg (by omega)] at h
        have := hin.1
        omega
    · rintro ⟨h1, h2⟩
      rw [(place_behind s j (by omega) hbh).1, hke]
theorem lineP_bound (s : ByteArray) (j : Nat) (hj : j ≤ s.size) : 1 ≤ lineP s j ∧ lineP s j ≤ nlines s := by
  unfold lineP nlines
  split
  · rename_i h; rw [h.2]; simp
  · rename_i h
    by_cases hz : 0 < s.size
    · have := (lineIx_spec s j hj hz).1
      refine ⟨by omega, ?_⟩
      split <;> omega
    · exfalso
      apply h
      refine ⟨by omega, ?_⟩
      unfold behindB
      rw [decide_eq_true (by omega)]; rfl
theorem begP_line (s : ByteArray) (j k : Nat) (hj : j ≤ s.size) (h : lineP s j = k + 1) : begP s j = posAt s k := by
  unfold lineP at h
  unfold begP
  split
  · rename_i hb
    rw [if_pos hb] at h
    have : k = (linesP s).length := by omega
    rw [this, posAt_end]
  · rename_i hb
    rw [if_neg hb] at h
    rw [show lineIx s j = k by omega]

/-- Which offsets have a place. -/
theorem off_iff (s : ByteArray) (j k m : Nat) (hj : j ≤ s.size) (hk : k < nlines s) : (lineP s j = k + 1 ∧ colP s j = m + 1) ↔
    (posAt s k ≤ j ∧ j ≤ lineLast s k ∧ ((m = 0 ∧ j ≤ posAt s k) ∨ (0 < m ∧ cpos s (posAt s k) (m - 1) < j ∧ j ≤ cpos s (posAt s k) m))) := by
  rw [← steps_iff]
  constructor
  · rintro ⟨h1, h2⟩
    have h3 := (line_iff s j k hj hk).1 h1
    unfold colP at h2
    rw [begP_line s j k hj h1] at h2
    exact ⟨h3.1, h3.2, by omega⟩
  · rintro ⟨h1, h2, h3⟩
    have h4 := (line_iff s j k hj hk).2 ⟨h1, h2⟩
    refine ⟨h4, ?_⟩
    unfold colP
    rw [begP_line s j k hj h4]; omega

/-- The byte at a line's greatest offset is below 128, where that isn't the text's end. -/
theorem last_low (s : ByteArray) (k : Nat) (h : lineLast s k < s.size) : (s.get! (lineLast s k)).toNat < 128 := by
  unfold lineLast at h ⊢
  split at h
  · rename_i hl
    rw [if_pos hl]
    have h0 := (posAt_line s k hl).1
    have e : posAt s (k + 1) = lineEnd s (lineTo s (posAt s k)) := by rw [posAt_succ, if_pos h0]
    have key : ∀ b : UInt8, isEol b = true → b.toNat < 128 := fun b hb => by
      have := (isEol_iff b).1 hb; omega
    split at h
    · rename_i he
      rw [if_pos he]
      have hq : lineTo s (posAt s k) < s.size := by
        have := posAt_le s (k + 1); omega
      have heol := lineTo_eol s (posAt s k) hq
      rw [e]
      unfold lineEnd
      rw [if_pos hq]
      split
      · rename_i hc
        unfold crlfAt at hc
        simp only [Bool.and_eq_true, beq_iff_eq] at hc
        rw [show lineTo s (posAt s k) + 2 - 1 = lineTo s (posAt s k) + 1 by omega, hc.2]
        decide
      · rw [Nat.add_sub_cancel]; exact key _ heol
    · rename_i he
      exfalso
      by_cases hc : k + 1 < (linesP s).length
      · exact he (inner_ended s k hc)
      · have : k + 1 = (linesP s).length := by omega
        rw [this, posAt_end] at h; omega
  · omega
/-- No character reaches over a line's greatest offset. -/
theorem cpos_last (s : ByteArray) (k p : Nat) (hp : p < lineLast s k) : p + (Utf8.decode s p).2 ≤ lineLast s k := by
  have hle := lineLast_le s k
  have hde := decode_end s p (by omega)
  by_cases hz : lineLast s k = s.size
  · omega
  · have hlow := last_low s k (by omega)
    by_cases hc : p + (Utf8.decode s p).2 ≤ lineLast s k
    · exact hc
    · exfalso
      by_cases h128 : (Utf8.decode s p).1 < 128
      · have := (decode_byte s p h128).2.1; omega
      · have := decode_high s p (by omega) (lineLast s k - p) (by omega)
        rw [show p + (lineLast s k - p) = lineLast s k by omega] at this
        omega

/-- The least offset with a place. -/
def offK (s : ByteArray) (k m : Nat) : Nat := if m = 0 then posAt s k else cpos s (posAt s k) (m - 1) + 1
def OffOk (s : ByteArray) (k m : Nat) : Prop := m = 0 ∨ cpos s (posAt s k) (m - 1) < lineLast s k
theorem off_ok (s : ByteArray) (k m : Nat) (hk : k < nlines s) (h : OffOk s k m) :
    offK s k m ≤ s.size ∧ lineP s (offK s k m) = k + 1 ∧ colP s (offK s k m) = m + 1 ∧ ∀ j, j < offK s k m → ¬ (lineP s j = k + 1 ∧ colP s j = m + 1) := by
  have h1 := lineLast_ge s k
  have h2 := lineLast_le s k
  unfold OffOk at h
  have hle : offK s k m ≤ lineLast s k := by
    unfold offK
    split
    · exact h1
    · omega
  have hge : posAt s k ≤ offK s k m := by
    unfold offK
    split
    · exact Nat.le_refl _
    · have := cpos_ge s (posAt s k) (m - 1); omega
  obtain ⟨a, b⟩ := (off_iff s (offK s k m) k m (by omega) hk).2 ⟨hge, hle, by
    unfold offK
    by_cases hm : m = 0
    · rw [if_pos hm]; exact .inl ⟨hm, Nat.le_refl _⟩
    · rw [if_neg hm]
      have := cpos_lt s (posAt s k) (m - 1)
      rw [show m - 1 + 1 = m by omega] at this
      exact .inr ⟨by omega, by omega, by omega⟩⟩
  refine ⟨by omega, a, b, fun j hj hc => ?_⟩
  obtain ⟨c1, c2, c3⟩ := (off_iff s j k m (by omega) hk).1 hc
  unfold offK at hj
  split at hj <;> omega
theorem off_no (s : ByteArray) (k m : Nat) (hk : k < nlines s) (h : ¬ OffOk s k m) (j : Nat) (hj : j ≤ s.size) : ¬ (lineP s j = k + 1 ∧ colP s j = m + 1) := by
  intro hc
  obtain ⟨c1, c2, c3⟩ := (off_iff s j k m hj hk).1 hc
  apply h
  unfold OffOk
  omega
/-- An offset has the place of the least one with its place, and is less than four bytes behind it. -/
theorem off_back (s : ByteArray) (j : Nat) (hj : j ≤ s.size) : ∃ k m, lineP s j = k + 1 ∧ colP s j = m + 1 ∧ k < nlines s ∧ OffOk s k m ∧ offK s k m ≤ j ∧ j - offK s k m < 4 := by
  have hb := lineP_bound s j hj
  have hc : 1 ≤ colP s j := by unfold colP; omega
  refine ⟨lineP s j - 1, colP s j - 1, by omega, by omega, by omega, ?_⟩
  obtain ⟨c1, c2, c3⟩ := (off_iff s j (lineP s j - 1) (colP s j - 1) hj (by omega)).1 ⟨by omega, by omega⟩
  generalize lineP s j - 1 = k at *
  generalize colP s j - 1 = m at *
  unfold OffOk offK
  rcases c3 with ⟨h1, h2⟩ | ⟨h1, h2, h3⟩
  · rw [if_pos h1]; exact ⟨.inl h1, by omega, by omega⟩
  · rw [if_neg (by omega)]
    have hs := cpos_succ s (posAt s k) (m - 1)
    rw [show m - 1 + 1 = m by omega] at hs
    have hw := width_le4 s (cpos s (posAt s k) (m - 1))
    exact ⟨.inr (by omega), by omega, by omega⟩
end Go.Proofs.YtkomodicpfbkhaaDoor
