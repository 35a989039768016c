/-
  A slice that holds lines, in a row's beginning. Conditions: none.
-/
import Derived.Test.YtkomodicpfbkhaaDoorRefLines
namespace Go.Proofs.YtkomodicpfbkhaaDoor
open Go.RowKit Go.Lib

/-- A slice holds some lines, in a row's beginning. -/
def LinesAt (w : World) (v : Value) (l : List LineP) : Prop :=
  ∃ a cap, v = .slice a l.length cap ∧ l.length ≤ cap ∧ (l ≠ [] → ∃ g, a = some ⟨g, 0, none⟩ ∧ g < w.heap.size ∧ ∀ k (h : k < l.length),
    w.cell? ⟨g, k * 3, none⟩ = some (.int .i64 l[k].from_) ∧ w.cell? ⟨g, k * 3 + 1, none⟩ = some (.int .i64 l[k].to_) ∧ w.cell? ⟨g, k * 3 + 2, none⟩ = some (.int .i64 l[k].end_))

theorem LinesAt.of_owns {w : World} {base : Nat} {v : Value} {l : List LineP} (h : w.ownsRow base 58 3 v l.length (lineCells l)) : LinesAt w v l := by
  rcases h.2 with ⟨hv, hn⟩ | ⟨g, cap, cur, hv, hg, hh, hc, hm, hs, ht⟩
  · have : l = [] := List.length_eq_zero_iff.1 hn
    subst this
    exact ⟨none, 0, hv, Nat.le_refl _, fun h => absurd rfl h⟩
  · refine ⟨some ⟨g, 0, none⟩, cap, hv, hc, fun _ => ⟨g, rfl, (Array.getElem?_eq_some_iff.1 hh).1, fun k hk => ?_⟩⟩
    have key : ∀ i u, i < l.length * 3 → (lineCells l)[i]? = some u → w.cell? ⟨g, i, none⟩ = some u := by
      intro i u hi hu
      rw [← ht, List.getElem?_take_of_lt hi] at hu
      simp only [World.cell?, hh]
      simpa using hu
    obtain ⟨h0, h1, h2⟩ := lineCells_get l k hk
    exact ⟨key _ _ (by omega) h0, key _ _ (by omega) h1, key _ _ (by omega) h2⟩

theorem LinesAt.below {w w' : World} {v : Value} {l : List LineP} (h : LinesAt w v l) (hb : Below w.heap.size w w') : LinesAt w' v l := by
  obtain ⟨a, cap, hv, hc, hr⟩ := h
  refine ⟨a, cap, hv, hc, fun hne => ?_⟩
  obtain ⟨g, ha, hg, hcell⟩ := hr hne
  have hs := hb.size
  refine ⟨g, ha, by omega, fun k hk => ?_⟩
  rw [hb.cell (p := ⟨g, k * 3, none⟩) hg, hb.cell (p := ⟨g, k * 3 + 1, none⟩) hg, hb.cell (p := ⟨g, k * 3 + 2, none⟩) hg]
  exact hcell k hk

def linesN (s : ByteArray) : Nat → Nat → List LineP
  | 0, _ => []
  | n + 1, p => if p < s.size then ⟨p, lineTo s p, lineEnd s (lineTo s p)⟩ :: linesN s n (lineEnd s (lineTo s p)) else []
theorem linesFrom_fuel (s : ByteArray) : ∀ n p, s.size - p ≤ n → linesFrom s p = linesN s n p
  | 0, p, h => by rw [linesFrom_out s p (by omega)]; rfl
  | n + 1, p, h => by
    by_cases hp : p < s.size
    · have := line_gt s p hp
      have := line_le s p (by omega)
      rw [linesFrom_in s p hp, linesFrom_fuel s n _ (by omega)]
      simp only [linesN, hp, if_true]
    · rw [linesFrom_out s p hp]; simp only [linesN, hp, if_false]
theorem linesP_eq (s : ByteArray) (n : Nat) (h : s.size = n) : linesP s = linesN s n 0 := linesFrom_fuel s n 0 (by omega)

theorem linesP_len (s : ByteArray) : (linesP s).length ≤ s.size := by
  have := linesFrom_len s 0
  unfold linesP; omega

/-- A slice's lines: its shape. -/
theorem LinesAt.shape {w : World} {v : Value} {l : List LineP} (h : LinesAt w v l) : ∃ a cap, v = .slice a l.length cap := by
  obtain ⟨a, cap, hv, _⟩ := h
  exact ⟨a, cap, hv⟩

end Go.Proofs.YtkomodicpfbkhaaDoor
