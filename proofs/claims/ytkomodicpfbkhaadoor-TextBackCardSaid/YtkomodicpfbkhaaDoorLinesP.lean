/-
  A text's lines, as a plain list; what the parts of a text tell of them. Conditions: none.
-/
import Derived.Test.YtkomodicpfbkhaaDoorUtf
import Derived.Lib.IndexAny
import Derived.Lib.Strings
namespace Go.Proofs.YtkomodicpfbkhaaDoor
open Go.Lib

def isEol (b : UInt8) : Bool := b == 13 || b == 10
theorem isEol_iff (b : UInt8) : isEol b = true ↔ b.toNat = 13 ∨ b.toNat = 10 := by
  unfold isEol
  rw [Bool.or_eq_true, beq_iff_eq, beq_iff_eq, ← UInt8.toNat_inj, ← UInt8.toNat_inj]
  rfl
theorem contains_crlf (b : UInt8) : ([13, 10] : List UInt8).contains b = isEol b := by
  unfold isEol
  simp [List.contains, List.elem]
  cases h1 : b == 13 <;> cases h2 : b == 10 <;> rfl

def lineToN (s : ByteArray) : Nat → Nat → Nat
  | 0, p => p
  | n + 1, p => if isEol (s.get! p) then p else lineToN s n (p + 1)
/-- Where the line that begins at p ends: its end's first byte, or the text's end. -/
def lineTo (s : ByteArray) (p : Nat) : Nat := lineToN s (s.size - p) p

theorem lineToN_spec (s : ByteArray) : ∀ n p, p ≤ lineToN s n p ∧ lineToN s n p ≤ p + n ∧ (∀ k, p ≤ k → k < lineToN s n p → isEol (s.get! k) = false) ∧ (lineToN s n p < p + n → isEol (s.get! (lineToN s n p)) = true)
  | 0, p => ⟨Nat.le_refl _, Nat.le_refl _, fun k h1 h2 => by simp only [lineToN] at h2; omega, fun h => by simp only [lineToN] at h; omega⟩
  | n + 1, p => by
    unfold lineToN
    split
    · rename_i h
      exact ⟨Nat.le_refl _, by omega, fun k h1 h2 => by omega, fun _ => h⟩
    · rename_i h
      obtain ⟨a, b, c, d⟩ := lineToN_spec s n (p + 1)
      refine ⟨by omega, by omega, fun k h1 h2 => ?_, fun hlt => d (by omega)⟩
      by_cases e : k = p
      · subst e; simpa using h
      · exact c k (by omega) h2

theorem lineTo_ge (s : ByteArray) (p : Nat) : p ≤ lineTo s p := (lineToN_spec s _ p).1
theorem lineTo_le (s : ByteArray) (p : Nat) (h : p ≤ s.size) : lineTo s p ≤ s.size := by
  have := (lineToN_spec s (s.size - p) p).2.1
  unfold lineTo; omega
theorem lineTo_no (s : ByteArray) (p k : Nat) (h1 : p ≤ k) (h2 : k < lineTo s p) : isEol (s.get! k) = false := (lineToN_spec s _ p).2.2.1 k h1 h2
theorem lineTo_eol (s : ByteArray) (p : Nat) (h : lineTo s p < s.size) : isEol (s.get! (lineTo s p)) = true := by
  have a := lineTo_ge s p
  have := (lineToN_spec s (s.size - p) p).2.2.2
  unfold lineTo at h a ⊢
  exact this (by omega)
theorem lineTo_is (s : ByteArray) (p q : Nat) (h1 : p ≤ q) (h2 : q ≤ s.size) (h3 : ∀ k, p ≤ k → k < q → isEol (s.get! k) = false) (h4 : q < s.size → isEol (s.get! q) = true) : lineTo s p = q := by
  have a := lineTo_ge s p
  have b := lineTo_le s p (by omega)
  rcases Nat.lt_trichotomy (lineTo s p) q with h | h | h
  · have x := lineTo_eol s p (by omega)
    rw [h3 _ a h] at x; cases x
  · exact h
  · have x := h4 (by omega)
    rw [lineTo_no s p q h1 h] at x; cases x

/-- Is there CR LF at an offset? -/
def crlfAt (s : ByteArray) (q : Nat) : Bool := decide (q + 1 < s.size) && (s.get! q == 13) && (s.get! (q + 1) == 10)
/-- Behind the end that begins at q. -/
def lineEnd (s : ByteArray) (q : Nat) : Nat := if q < s.size then (if crlfAt s q then q + 2 else q + 1) else q
theorem lineEnd_le (s : ByteArray) (q : Nat) (h : q ≤ s.size) : lineEnd s q ≤ s.size := by
  unfold lineEnd crlfAt
  split
  · split
    · rename_i h1 h2; simp at h2; omega
    · omega
  · exact h
theorem lineEnd_ge (s : ByteArray) (q : Nat) : q ≤ lineEnd s q := by
  unfold lineEnd; split
  · split <;> omega
  · omega
theorem lineEnd_gt (s : ByteArray) (q : Nat) (h : q < s.size) : q < lineEnd s q := by
  unfold lineEnd; rw [if_pos h]; split <;> omega
theorem line_gt (s : ByteArray) (p : Nat) (h : p < s.size) : p < lineEnd s (lineTo s p) := by
  have := lineTo_ge s p
  have := lineEnd_ge s (lineTo s p)
  by_cases e : lineTo s p < s.size
  · have := lineEnd_gt s _ e; omega
  · omega
theorem line_le (s : ByteArray) (p : Nat) (h : p ≤ s.size) : lineEnd s (lineTo s p) ≤ s.size := lineEnd_le s _ (lineTo_le s p h)

structure LineP where
  from_ : Nat
  to_ : Nat
  end_ : Nat
deriving DecidableEq

/-- The lines from an offset on. -/
def linesFrom (s : ByteArray) (p : Nat) : List LineP :=
  if h : p < s.size then ⟨p, lineTo s p, lineEnd s (lineTo s p)⟩ :: linesFrom s (lineEnd s (lineTo s p)) else []
termination_by s.size - p
decreasing_by have := line_gt s p h; have := line_le s p (by omega); omega
theorem linesFrom_in (s : ByteArray) (p : Nat) (h : p < s.size) : linesFrom s p = ⟨p, lineTo s p, lineEnd s (lineTo s p)⟩ :: linesFrom s (lineEnd s (lineTo s p)) := by
  rw [linesFrom, dif_pos h]
theorem linesFrom_out (s : ByteArray) (p : Nat) (h : ¬ p < s.size) : linesFrom s p = [] := by
  rw [linesFrom, dif_neg h]
def linesP (s : ByteArray) : List LineP := linesFrom s 0

theorem linesFrom_len (s : ByteArray) (p : Nat) : (linesFrom s p).length ≤ s.size - p := by
  generalize hn : s.size - p = n
  induction n using Nat.strongRecOn generalizing p with
  | ind n ih =>
    by_cases h : p < s.size
    · rw [linesFrom_in s p h, List.length_cons]
      have := line_gt s p h
      have := line_le s p (by omega)
      have := ih (s.size - lineEnd s (lineTo s p)) (by omega) _ rfl
      omega
    · rw [linesFrom_out s p h]; simp

def LineP.cells (l : LineP) : List Value := [.int .i64 l.from_, .int .i64 l.to_, .int .i64 l.end_]
def lineCells (l : List LineP) : List Value := l.flatMap LineP.cells
theorem lineCells_append (a b : List LineP) : lineCells (a ++ b) = lineCells a ++ lineCells b := by simp [lineCells]
theorem lineCells_length (l : List LineP) : (lineCells l).length = l.length * 3 := by
  induction l with
  | nil => rfl
  | cons a t ih => 
    show (LineP.cells a ++ lineCells t).length = _
    rw [List.length_append, ih, List.length_cons]
    show 3 + _ = _
    omega

theorem lineCells_get (l : List LineP) : ∀ i (h : i < l.length), (lineCells l)[i * 3]? = some (.int .i64 l[i].from_) ∧ (lineCells l)[i * 3 + 1]? = some (.int .i64 l[i].to_) ∧ (lineCells l)[i * 3 + 2]? = some (.int .i64 l[i].end_) := by
  induction l with
  | nil => intro i h; simp at h
  | cons p l ih =>
    intro i h
    cases i with
    | zero => exact ⟨rfl, rfl, rfl⟩
    | succ i =>
      have := ih i (by simpa using h)
      have e : lineCells (p :: l) = .int .i64 p.from_ :: .int .i64 p.to_ :: .int .i64 p.end_ :: lineCells l := rfl
      rw [e, show (i + 1) * 3 = i * 3 + 1 + 1 + 1 from by omega]
      simpa using this

/-- The tail of a text. -/
theorem tail_size (s : ByteArray) (p : Nat) (hp : p ≤ s.size) : (s.extract p s.size).size = s.size - p := by
  rw [ByteArray.size_extract]; omega
theorem tail_get (s : ByteArray) (p k : Nat) (h : p + k < s.size) : (s.extract p s.size).data.toList[k]? = some (s.get! (p + k)) := by
  have h2 : k < (s.extract p s.size).size := by rw [tail_size s p (by omega)]; omega
  have h3 : k < (s.extract p s.size).data.toList.length := by simpa using h2
  rw [List.getElem?_eq_getElem h3, bang_get s (p + k) h]
  congr 1
  show (s.extract p s.size)[k] = _
  rw [ByteArray.getElem_extract]

theorem index_to (s : ByteArray) (p : Nat) (hp : p ≤ s.size) : Lib.indexAny (s.extract p s.size).data.toList [13, 10] = if lineTo s p < s.size then ((lineTo s p - p : Nat) : Int) else -1 := by
  have hno : ∀ n, p + n ≤ lineTo s p → NoAny (s.extract p s.size).data.toList [13, 10] n := by
    intro n hn j b hj hb
    have hle := lineTo_le s p hp
    rw [tail_get s p j (by omega)] at hb
    cases hb
    rw [contains_crlf]
    exact lineTo_no s p _ (by omega) (by omega)
  have hge := lineTo_ge s p
  split
  · rename_i h
    have e : p + (lineTo s p - p) = lineTo s p := by omega
    refine indexAny_hit (x := s.get! (lineTo s p)) (hno _ (by omega)) ?_ ?_
    · rw [tail_get s p _ (by omega), e]
    · rw [contains_crlf]; exact lineTo_eol s p h
  · rename_i h
    refine indexAny_none (hno _ ?_)
    have hle := lineTo_le s p hp
    have e2 : (s.extract p s.size).data.toList.length = (s.extract p s.size).size := Array.length_toList
    rw [e2, tail_size s p hp]; omega

theorem prefix_crlf (s : ByteArray) (q : Nat) (hq : q < s.size) : Lib.hasPrefix (s.extract q s.size).data.toList [13, 10] = crlfAt s q := by
  have e2 : (s.extract q s.size).data.toList.length = s.size - q := by
    have : (s.extract q s.size).data.toList.length = (s.extract q s.size).size := Array.length_toList
    rw [this, tail_size s q (by omega)]
  have h0 := tail_get s q 0 (by omega)
  unfold crlfAt
  generalize hl : (s.extract q s.size).data.toList = l at *
  match l, e2 with
  | [], e2 => simp at e2; omega
  | [a], e2 =>
    simp at h0 e2
    have : ¬ q + 1 < s.size := by omega
    simp [Lib.hasPrefix, this, List.isPrefixOf]
  | a :: b :: t, e2 =>
    simp at e2
    have h1 := tail_get s q 1 (by omega)
    rw [hl] at h1
    simp at h0 h1
    have : q + 1 < s.size := by omega
    rw [← h0, ← h1]
    simp only [Lib.hasPrefix, this, List.isPrefixOf, decide_true, Bool.true_and, Bool.and_true]
    rw [Bool.beq_comm (a := (13 : UInt8)), Bool.beq_comm (a := (10 : UInt8))]
end Go.Proofs.YtkomodicpfbkhaaDoor
