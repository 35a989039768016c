/-
  stetref00.SameLines of two rows that hold the same lines: true. Conditions: at most 1000000 lines.
-/
import Derived.Test.YtkomodicpfbkhaaRefLines
import Derived.BigQuiet
namespace Go.Proofs.Ytkomodicpfbkhaa
open Go.RowKit Go.Lib

/-- A slice holds some lines, in a row's beginning. -/
def LinesAt (w : World) (v : Value) (l : List LineP) : Prop :=
  ∃ a cap, v = .slice a l.length cap ∧ l.length ≤ cap ∧ (l ≠ [] → ∃ g, a = some ⟨g, 0, none⟩ ∧ g < w.heap.size ∧ ∀ k (h : k < l.length),
    w.cell? ⟨g, k * 3, none⟩ = some (.int .i64 l[k].from_) ∧ w.cell? ⟨g, k * 3 + 1, none⟩ = some (.int .i64 l[k].to_) ∧ w.cell? ⟨g, k * 3 + 2, none⟩ = some (.int .i64 l[k].end_))

theorem LinesAt.of_owns {w : World} {base : Nat} {v : Value} {l : List LineP} (h : w.ownsRow base 27 3 v l.length (lineCells l)) : LinesAt w v l := by
  rcases h.2 with ⟨hv, hn⟩ | ⟨g, cap, cur, hv, hg, hh, hc, hm, hs, ht⟩
  · have : l = [] := List.length_eq_zero_iff.1 hn
    subst this
    exact ⟨none, 0, hv, Nat.le_refl _, fun h => absurd rfl h⟩
  · refine ⟨some ⟨g, 0, none⟩, cap, hv, hc, fun _ => ⟨g, rfl, (Array.getElem?_eq_some_iff.1 hh).1, fun k hk => ?_⟩⟩
    have key : ∀ i u, i < l.length * 3 → (lineCells l)[i]? = some u → w.cell? ⟨g, i, none⟩ = some u := by
      intro i u hi hu
      rw [← ht, List.getElem?_take_of_lt hi] at hu
      simp only [World.cell?, hh]
      simpa using hu
    obtain ⟨h0, h1, h2⟩ := lineCells_get l k hk
    exact ⟨key _ _ (by omega) h0, key _ _ (by omega) h1, key _ _ (by omega) h2⟩

theorem LinesAt.below {w w' : World} {v : Value} {l : List LineP} (h : LinesAt w v l) (hb : Below w.heap.size w w') : LinesAt w' v l := by
  obtain ⟨a, cap, hv, hc, hr⟩ := h
  refine ⟨a, cap, hv, hc, fun hne => ?_⟩
  obtain ⟨g, ha, hg, hcell⟩ := hr hne
  have hs := hb.size
  refine ⟨g, ha, by omega, fun k hk => ?_⟩
  rw [hb.cell (p := ⟨g, k * 3, none⟩) hg, hb.cell (p := ⟨g, k * 3 + 1, none⟩) hg, hb.cell (p := ⟨g, k * 3 + 2, none⟩) hg]
  exact hcell k hk

set_option maxHeartbeats 2000000 in
set_option maxRecDepth 100000 in
theorem sameLines_any (l : List LineP) (hl : l.length ≤ 1000000) (va vb : Value) (w : World) (ha : LinesAt w va l) (hb : LinesAt w vb l) :
    Calls Try.prog 7 #[va, vb] w fun e w' => e = .returned (.bool true) ∧ Below w.heap.size w w' := by
  obtain ⟨a, cap, rfl, hc, hr⟩ := ha
  obtain ⟨a2, cap2, rfl, hc2, hr2⟩ := hb
  go_enter Try.func7, Try.ntmps7
  go_wp2
  go_loopw [5] (fun i wr => ∃ k : Nat, k ≤ l.length ∧ i = .int .i64 k ∧ Below w.heap.size w wr) (fun i _ => l.length - (RowKit.intOf i).toNat)
  case atStart => exact ⟨0, Nat.zero_le _, rfl, Below.refl _ _⟩
  case round =>
    obtain ⟨k, hk, rfl, hbw⟩ := hrel
    by_cases hlt : k < l.length
    · have hne : l ≠ [] := by intro e; subst e; simp at hlt
      obtain ⟨g, rfl, hg, hcell⟩ := hr hne
      obtain ⟨g2, rfl, hg2, hcell2⟩ := hr2 hne
      obtain ⟨c0, c1, c2⟩ := hcell k hlt
      obtain ⟨d0, d1, d2⟩ := hcell2 k hlt
      rw [← hbw.cell (p := ⟨g, _, none⟩) hg] at c0 c1 c2
      rw [← hbw.cell (p := ⟨g2, _, none⟩) hg2] at d0 d1 d2
      clear hcell hcell2 hr hr2
      have i1 : (k : Int) < (l.length : Int) := by omega
      go_wp2
      go_quiet (fail)
      go_wp2
      go_roundw
      case rel => exact ⟨k + 1, by omega, by go_num, below_drewN hbw⟩
      case measure => simp [RowKit.intOf]; omega
    · clear hr hr2
      go_wp2
      go_ret
      exact ⟨rfl, hbw⟩
end Go.Proofs.Ytkomodicpfbkhaa
