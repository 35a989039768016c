/-
  The place of an offset, as a plain function; its laws. Conditions: none.
-/
import Derived.Test.YtkomodicpfbkhaaDoorLinesL
namespace Go.Proofs.YtkomodicpfbkhaaDoor
open Go.Lib

/-- Where the line of a number begins. -/
def posAt (s : ByteArray) : Nat → Nat
  | 0 => 0
  | k + 1 => if posAt s k < s.size then lineEnd s (lineTo s (posAt s k)) else posAt s k
theorem posAt_succ (s : ByteArray) (k : Nat) : posAt s (k + 1) = if posAt s k < s.size then lineEnd s (lineTo s (posAt s k)) else posAt s k := rfl
theorem posAt_le (s : ByteArray) : ∀ k, posAt s k ≤ s.size
  | 0 => Nat.zero_le _
  | k + 1 => by
    have := posAt_le s k
    rw [posAt_succ]; split
    · exact line_le s _ this
    · exact this
theorem posAt_lt (s : ByteArray) (k : Nat) (h : posAt s k < s.size) : posAt s k < posAt s (k + 1) := by
  rw [posAt_succ, if_pos h]
  exact line_gt s _ h
theorem posAt_drop (s : ByteArray) : ∀ k, k ≤ (linesP s).length → (linesP s).drop k = linesFrom s (posAt s k)
  | 0, _ => rfl
  | k + 1, h => by
    obtain ⟨h1, h2, h3⟩ := linesFrom_drop s (posAt s k) k (posAt_drop s k (by omega)) (by omega)
    rw [h3, posAt_succ, if_pos h1]
theorem posAt_line (s : ByteArray) (k : Nat) (h : k < (linesP s).length) : posAt s k < s.size ∧ (linesP s)[k] = ⟨posAt s k, lineTo s (posAt s k), posAt s (k + 1)⟩ := by
  obtain ⟨h1, h2, h3⟩ := linesFrom_drop s (posAt s k) k (posAt_drop s k (by omega)) h
  refine ⟨h1, ?_⟩
  rw [h2, posAt_succ, if_pos h1]
theorem posAt_end (s : ByteArray) : posAt s (linesP s).length = s.size := by
  have h := posAt_drop s _ (Nat.le_refl _)
  rw [List.drop_length] at h
  exact linesFrom_end s _ (posAt_le s _) h.symm
theorem posAt_mono (s : ByteArray) (j k : Nat) (h : j ≤ k) : posAt s j ≤ posAt s k := by
  obtain ⟨n, rfl⟩ := Nat.exists_eq_add_of_le h
  induction n with
  | zero => exact Nat.le_refl _
  | succ n ih =>
    have := ih (by omega)
    by_cases hp : posAt s (j + n) < s.size
    · have := posAt_lt s _ hp
      have e : j + (n + 1) = (j + n) + 1 := rfl
      rw [e]; omega
    · have e : posAt s (j + (n + 1)) = posAt s (j + n) := by
        rw [show j + (n + 1) = (j + n) + 1 from rfl, posAt_succ, if_neg hp]
      omega
theorem posAt_len (s : ByteArray) (k : Nat) : k < (linesP s).length ↔ posAt s k < s.size := by
  constructor
  · intro h; exact (posAt_line s k h).1
  · intro h
    rcases Nat.lt_or_ge k (linesP s).length with h1 | h1
    · exact h1
    · have := posAt_mono s _ _ h1
      rw [posAt_end] at this; omega

/-- Does a text's end stand behind its last line? -/
def behindB (s : ByteArray) : Bool := decide (s.size = 0) || isEol (s.get! (s.size - 1))

/-- Does the line of a number hold an offset? -/
def InLine (s : ByteArray) (o k : Nat) : Prop := k < (linesP s).length ∧ posAt s k ≤ o ∧ (o < posAt s (k + 1) ∨ (o = s.size ∧ k + 1 = (linesP s).length))
theorem inLine_unique (s : ByteArray) (o j k : Nat) (hj : InLine s o j) (hk : InLine s o k) : j = k := by
  obtain ⟨j1, j2, j3⟩ := hj
  obtain ⟨k1, k2, k3⟩ := hk
  rcases Nat.lt_trichotomy j k with h | h | h
  · have := posAt_mono s (j + 1) k h
    omega
  · exact h
  · have := posAt_mono s (k + 1) j h
    omega
def ixN (s : ByteArray) (o : Nat) : Nat → Nat → Nat
  | 0, k => k
  | n + 1, k => if posAt s (k + 1) ≤ o ∧ posAt s (k + 1) < s.size then ixN s o n (k + 1) else k
theorem ixN_spec (s : ByteArray) (o : Nat) (ho : o ≤ s.size) : ∀ n k, posAt s k ≤ o → posAt s k < s.size → s.size ≤ posAt s k + n → InLine s o (ixN s o n k)
  | 0, k, h1, h2, h3 => by omega
  | n + 1, k, h1, h2, h3 => by
    have hlt := posAt_lt s k h2
    have hle := posAt_le s (k + 1)
    unfold ixN
    split
    · rename_i h
      exact ixN_spec s o ho n (k + 1) h.1 h.2 (by omega)
    · rename_i h
      refine ⟨(posAt_len s k).2 h2, h1, ?_⟩
      by_cases h4 : o < posAt s (k + 1)
      · exact .inl h4
      · have h5 : posAt s (k + 1) = s.size := by omega
        refine .inr ⟨by omega, ?_⟩
        have h6 := (posAt_len s k).2 h2
        have h7 : ¬ k + 1 < (linesP s).length := fun hc => by
          have := (posAt_len s (k + 1)).1 hc; omega
        omega
/-- The number of the line that holds an offset. -/
def lineIx (s : ByteArray) (o : Nat) : Nat := ixN s o s.size 0
theorem lineIx_spec (s : ByteArray) (o : Nat) (ho : o ≤ s.size) (h0 : 0 < s.size) : InLine s o (lineIx s o) :=
  ixN_spec s o ho s.size 0 (Nat.zero_le _) h0 (by show _ ≤ 0 + _; omega)
theorem lineIx_is (s : ByteArray) (o k : Nat) (ho : o ≤ s.size) (h : InLine s o k) : lineIx s o = k := by
  have h0 : 0 < s.size := by have := (posAt_len s k).1 h.1; omega
  exact inLine_unique s o _ _ (lineIx_spec s o ho h0) h

/-- How many characters begin from an offset on ahead of another one. -/
def stepsN (s : ByteArray) (o : Nat) : Nat → Nat → Nat
  | 0, _ => 0
  | n + 1, a => if a < o then 1 + stepsN s o n (a + (Utf8.decode s a).2) else 0
def steps (s : ByteArray) (a o : Nat) : Nat := stepsN s o (o - a) a
theorem stepsN_more (s : ByteArray) (o : Nat) : ∀ n m a, o - a ≤ n → o - a ≤ m → stepsN s o n a = stepsN s o m a
  | 0, 0, _, _, _ => rfl
  | 0, m + 1, a, h, _ => by unfold stepsN; rw [if_neg (by omega)]
  | n + 1, 0, a, _, h => by unfold stepsN; rw [if_neg (by omega)]
  | n + 1, m + 1, a, h1, h2 => by
    unfold stepsN
    have := width_at s a
    split
    · rw [stepsN_more s o n m _ (by omega) (by omega)]
    · rfl
theorem steps_go (s : ByteArray) (a o : Nat) (h : a < o) : steps s a o = 1 + steps s (a + (Utf8.decode s a).2) o := by
  have hw := width_at s a
  unfold steps
  rw [show o - a = (o - a - 1) + 1 by omega]
  conv => lhs; unfold stepsN
  rw [if_pos h, stepsN_more s o (o - a - 1) (o - (a + (Utf8.decode s a).2)) _ (by omega) (by omega)]
theorem steps_stop (s : ByteArray) (a o : Nat) (h : o ≤ a) : steps s a o = 0 := by
  unfold steps
  rw [show o - a = 0 by omega]; rfl
theorem steps_le (s : ByteArray) (a o : Nat) : steps s a o ≤ o - a := by
  generalize hn : o - a = n
  induction n using Nat.strongRecOn generalizing a with
  | ind n ih =>
    by_cases h : a < o
    · have hw := width_at s a
      rw [steps_go s a o h]
      have := ih (o - (a + (Utf8.decode s a).2)) (by omega) _ rfl
      omega
    · rw [steps_stop s a o (by omega)]; omega

/-- An offset's line, from 1 on. -/
def lineP (s : ByteArray) (o : Nat) : Nat := if o = s.size ∧ behindB s = true then (linesP s).length + 1 else lineIx s o + 1
/-- Where that line begins. -/
def begP (s : ByteArray) (o : Nat) : Nat := if o = s.size ∧ behindB s = true then s.size else posAt s (lineIx s o)
/-- An offset's column, from 1 on. -/
def colP (s : ByteArray) (o : Nat) : Nat := 1 + steps s (begP s o) o

/-- A line that holds an offset, where no other rule counts. -/
theorem place_in (s : ByteArray) (o k : Nat) (ho : o ≤ s.size) (hb : ¬ (o = s.size ∧ behindB s = true)) (h : InLine s o k) : lineP s o = k + 1 ∧ begP s o = posAt s k := by
  unfold lineP begP
  rw [if_neg hb, if_neg hb, lineIx_is s o k ho h]
  exact ⟨rfl, rfl⟩
theorem place_behind (s : ByteArray) (o : Nat) (h : o = s.size) (hb : behindB s = true) : lineP s o = (linesP s).length + 1 ∧ begP s o = s.size ∧ colP s o = 1 := by
  unfold colP lineP begP
  rw [if_pos ⟨h, hb⟩, if_pos ⟨h, hb⟩, steps_stop s _ _ (by omega)]
  exact ⟨rfl, rfl, rfl⟩

/-- The last line has an end where the text ends behind it. -/
theorem last_ended (s : ByteArray) (k : Nat) (h : k + 1 = (linesP s).length) : behindB s = decide (lineTo s (posAt s k) < posAt s (k + 1)) := by
  have h1 := (posAt_line s k (by omega)).1
  have h2 : posAt s (k + 1) = s.size := by rw [h, posAt_end]
  have e : posAt s (k + 1) = lineEnd s (lineTo s (posAt s k)) := by
    rw [posAt_succ, if_pos h1]
  have hz : decide (s.size = 0) = false := decide_eq_false (by omega)
  unfold behindB
  rw [hz, Bool.false_or]
  have q0 := lineTo_ge s (posAt s k)
  have q1 := lineTo_le s (posAt s k) (posAt_le s k)
  by_cases hq : lineTo s (posAt s k) < s.size
  · rw [decide_eq_true (show lineTo s (posAt s k) < posAt s (k + 1) by omega)]
    rw [e] at h2
    unfold lineEnd at h2
    rw [if_pos hq] at h2
    split at h2
    · rename_i hc
      unfold crlfAt at hc
      simp only [Bool.and_eq_true, beq_iff_eq] at hc
      rw [show s.size - 1 = lineTo s (posAt s k) + 1 by omega, hc.2]
      decide
    · rw [show s.size - 1 = lineTo s (posAt s k) by omega]
      exact lineTo_eol s _ hq
  · rw [decide_eq_false (show ¬ lineTo s (posAt s k) < posAt s (k + 1) by omega)]
    exact lineTo_no s (posAt s k) _ (by omega) (by omega)
end Go.Proofs.YtkomodicpfbkhaaDoor
