/-
  stetref00.SameLines of two rows that hold the same lines: true. Conditions: at most 1000000 lines.
-/
import Derived.Test.YtkomodicpfbkhaaLinesAt
import Derived.BigQuiet
namespace Go.Proofs.Ytkomodicpfbkhaa
open Go.RowKit Go.Lib

set_option maxHeartbeats 2000000 in
set_option maxRecDepth 100000 in
theorem sameLines_any (l : List LineP) (hl : l.length ≤ 1000000) (va vb : Value) (w : World) (ha : LinesAt w va l) (hb : LinesAt w vb l) :
    Calls Try.prog 7 #[va, vb] w fun e w' => e = .returned (.bool true) ∧ Below w.heap.size w w' := by
  obtain ⟨a, cap, rfl, hc, hr⟩ := ha
  obtain ⟨a2, cap2, rfl, hc2, hr2⟩ := hb
  go_enter Try.func7, Try.ntmps7
  go_wp2
  go_loopw [5] (fun i wr => ∃ k : Nat, k ≤ l.length ∧ i = .int .i64 k ∧ Below w.heap.size w wr) (fun i _ => l.length - (RowKit.intOf i).toNat)
  case atStart => exact ⟨0, Nat.zero_le _, rfl, Below.refl _ _⟩
  case round =>
    obtain ⟨k, hk, rfl, hbw⟩ := hrel
    by_cases hlt : k < l.length
    · have hne : l ≠ [] := by intro e; subst e; simp at hlt
      obtain ⟨g, rfl, hg, hcell⟩ := hr hne
      obtain ⟨g2, rfl, hg2, hcell2⟩ := hr2 hne
      obtain ⟨c0, c1, c2⟩ := hcell k hlt
      obtain ⟨d0, d1, d2⟩ := hcell2 k hlt
      rw [← hbw.cell (p := ⟨g, _, none⟩) hg] at c0 c1 c2
      rw [← hbw.cell (p := ⟨g2, _, none⟩) hg2] at d0 d1 d2
      clear hcell hcell2 hr hr2
      have i1 : (k : Int) < (l.length : Int) := by omega
      go_wp2
      go_quiet (fail)
      go_wp2
      go_roundw
      case rel => exact ⟨k + 1, by omega, by go_num, below_drewN hbw⟩
      case measure => simp [RowKit.intOf]; omega
    · clear hr hr2
      go_wp2
      go_ret
      exact ⟨rfl, hbw⟩
end Go.Proofs.Ytkomodicpfbkhaa
