/-
  The walk of EmphNested: it returns true whatever it is handed. Conditions: the form's own bounds.
-/
import Derived.Test.YtnijcglmfpiheaaEmphDoor
set_option linter.unusedSimpArgs false
set_option linter.unusedVariables false
namespace Go.Proofs.Ytnijcglmfpiheaa
open Go.RowKit Go.Lib
namespace emphNested
set_option maxHeartbeats 16000000 in
set_option maxRecDepth 100000 in
theorem walk (a : Option Addr) (l : List RunP) (cap : Nat) (hl : l.length * 24 ≤ reachBytes) (hx : ∀ r ∈ l, RunOk r) (w : World) (hI : RunsIn w.heap.size w (.slice a l.length cap) l) :
    Calls Try.prog 8 #[.slice a l.length cap] w fun e w' => e = .returned (.bool true) ∧ Below w.heap.size w w' := by
  have hl2 : l.length ≤ 4611686018427387904 := by unfold reachBytes at hl; omega
  have hG := fun (w1 : World) (h : RunsIn w1.heap.size w1 (.slice a l.length cap) l) => greatR_any a cap l w1 hl2 h
  have HI := Lib.hid hI
  clear hI hl
  cases hg : greatR l
  · rw [hg] at hG
    obtain ⟨g1, g2⟩ := greatR_false hg
    have hCp := fun (w1 : World) (h : RunsIn w1.heap.size w1 (.slice a l.length cap) l) => copies_any a cap l (by omega) w1 h
    have hPr := fun (a1 : Option Addr) (c1 : Nat) (w1 : World) (h : RunsIn w1.heap.size w1 (.slice a1 l.length c1) l) => pairs_any a1 c1 l (by omega) hx w1 h
    have HN : RowKit.Hid (∀ k i, k < i → (hi : i < (solveP l).pairs.length) → (hk : k < (solveP l).pairs.length) → crossP (solveP l).pairs[k] (solveP l).pairs[i] = false) := fun k i h hi _ => nested_law l k i h hi
    have hpn : (solveP l).pairs.length ≤ 1000000000 := by
      have := goP_pairs l l.length (Nat.le_refl _)
      have e : (goP l l.length).pairs = (solveP l).pairs := rfl
      rw [e] at this
      omega
    clear hg g2
    generalize (solveP l).pairs = ps at *
    go_enter Try.func8, Try.ntmps8
    go_wp2_with fail
    refine (emphAlive_any _).mono ?_
    rintro e w1 ⟨rfl, b1⟩
    go_wp2_with fail
    refine (hG w1 (HI.out.later b1)).mono ?_
    rintro e w2 ⟨rfl, rfl⟩
    go_wp2_with fail
    refine (hCp _ (HI.out.later b1)).mono ?_
    rintro e w3 ⟨⟨g3, c3, rfl, hO3⟩, b3⟩
    have d3 := b1.trans (b3.mono b1.size)
    have hR3 := runsIn_of_owns hO3
    go_wp2_with fail
    refine (hPr _ c3 w3 hR3).mono ?_
    rintro e w4 ⟨⟨a4, c4, rfl, hP4⟩, b4⟩
    have D4 := Lib.hid (d3.trans (b4.mono d3.size))
    have HP : RowKit.Hid (∀ X, Below w4.heap.size w4 X → PairsIn w4.heap.size X (.slice a4 ps.length c4) ps) := fun X h => hP4.below h
    clear b1 b3 hO3 d3 hR3 b4 hP4 hCp hPr hG HI
    go_wp2_with fail
    go_loopw [4, 5, 6, 7] (fun iv _ _ _ wr => ∃ i : Nat, i ≤ ps.length ∧ iv = .int .i64 i ∧ Below w4.heap.size w4 wr) (fun iv _ _ _ _ => ps.length - (RowKit.intOf iv).toNat)
    case atStart => exact ⟨0, Nat.zero_le _, rfl, Below.refl _ _⟩
    case round =>
      obtain ⟨i, hi, rfl, hb⟩ := hrel
      by_cases hlt : i < ps.length
      · have hlt' : (i : Int) < (ps.length : Int) := by omega
        rename World => wo
        go_wp2_with fail
        go_loopw [5, 6, 7] (fun kv _ _ wr => ∃ k : Nat, k ≤ i ∧ kv = .int .i64 k ∧ Below w4.heap.size w4 wr) (fun kv _ _ _ => i - (RowKit.intOf kv).toNat)
        case atStart => exact ⟨0, Nat.zero_le _, rfl, hb⟩
        case round =>
          obtain ⟨k, hk, rfl, hbx⟩ := hrel
          have HBX := Lib.hid hbx
          by_cases hki : k < i
          · have hki' : (k : Int) < (i : Int) := by omega
            have hkl' : (k : Int) < (ps.length : Int) := by omega
            have hc := HN.out k i hki hlt (by omega)
            obtain ⟨g, off, rfl, hgl, -, hcs⟩ := (HP.out wr hbx).at hlt
            obtain ⟨p0, p1, p2⟩ := hcs k (by omega)
            have hA : Below w4.heap.size w4 (wr.alloc (.cells #[.int .i64 ps[k].o, .int .i64 ps[k].c, .int .i64 ps[k].n] 40)) := hbx.alloc hbx.size _
            obtain ⟨g', off', e', -, -, hcs'⟩ := (HP.out _ hA).at hlt
            cases e'
            obtain ⟨q0, q1, q2⟩ := hcs' i hlt
            have HA := Lib.hid (hA.alloc hA.size (.cells #[.int .i64 ps[i].o, .int .i64 ps[i].c, .int .i64 ps[i].n] 40))
            clear hcs hcs' hA hbx
            generalize ps[k] = x at *
            generalize ps[i] = y at *
            obtain ⟨x0, x1, x2⟩ := x
            obtain ⟨y0, y1, y2⟩ := y
            simp only [crossP, Bool.or_eq_false_iff, Bool.and_eq_false_iff, decide_eq_false_iff_not] at hc
            dsimp only at p0 p1 p2 q0 q1 q2 HA
            have hpart : (¬ x0 < y0 ∧ ¬ y0 < x0) ∨ (¬ x0 < y0 ∧ y0 < x0 ∧ ¬ x0 < y1) ∨ (¬ x0 < y0 ∧ y0 < x0 ∧ x0 < y1 ∧ ¬ y1 < x1) ∨ (x0 < y0 ∧ ¬ y0 < x1 ∧ ¬ y0 < x0) ∨ (x0 < y0 ∧ y0 < x1 ∧ ¬ x1 < y1 ∧ ¬ y0 < x0) := by omega
            clear hc
            rcases hpart with ⟨h1, h2⟩ | ⟨h1, h2, h3⟩ | ⟨h1, h2, h3, h4⟩ | ⟨h1, h2, h3⟩ | ⟨h1, h2, h3, h4⟩
            all_goals
              go_wp2_with fail
              go_roundw
              case rel => exact ⟨k + 1, by omega, by go_num, HA.out⟩
              case measure => simp [RowKit.intOf]; omega
          · obtain rfl : k = i := by omega
            have hki' : ¬ (k : Int) < (k : Int) := by omega
            go_wp2_with fail
            go_roundw
            case rel => exact ⟨k + 1, by omega, by go_num, HBX.out⟩
            case measure => simp [RowKit.intOf]; omega
      · have hlt' : ¬ (i : Int) < (ps.length : Int) := by omega
        go_wp2_with fail
        go_ret
        exact ⟨rfl, D4.out.trans (hb.mono D4.out.size)⟩
  · rw [hg] at hG
    go_enter Try.func8, Try.ntmps8
    go_wp2_with fail
    refine (emphAlive_any _).mono ?_
    rintro e w1 ⟨rfl, b1⟩
    go_wp2_with fail
    refine (hG w1 (HI.out.later b1)).mono ?_
    rintro e w2 ⟨rfl, rfl⟩
    go_wp2_with fail
    go_ret
    exact ⟨rfl, b1⟩
end emphNested
end Go.Proofs.Ytnijcglmfpiheaa
