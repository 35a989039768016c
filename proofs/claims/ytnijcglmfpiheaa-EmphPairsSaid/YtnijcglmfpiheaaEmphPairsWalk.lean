/-
  The walk of EmphPairs: it returns true whatever it is handed. Conditions: the form's own bounds.
-/
import Derived.Test.YtnijcglmfpiheaaEmphRef
set_option linter.unusedSimpArgs false
set_option linter.unusedVariables false
namespace Go.Proofs.Ytnijcglmfpiheaa
open Go.RowKit Go.Lib

set_option maxRecDepth 100000 in
set_option maxHeartbeats 4000000 in
theorem refPairs_any (a : Option Addr) (cap : Nat) (l : List RunP) (hl : l.length ≤ 1000000) (w : World) (hI : RunsIn w.heap.size w (.slice a l.length cap) l) :
    Calls Try.prog 25 #[.slice a l.length cap] w fun e w' => (∃ a' cap', e = .returned (.slice a' (solveP l).pairs.length cap') ∧ PairsIn w'.heap.size w' (.slice a' (solveP l).pairs.length cap') (solveP l).pairs) ∧ Below w.heap.size w w' := by
  have hS := refSolve_any a cap l hl w hI
  clear hI
  go_enter Try.func25, Try.ntmps25
  go_wp2_with fail
  refine hS.mono ?_
  rintro e w1 ⟨⟨vp, vl, rfl, hp, hlv⟩, b1⟩
  have hP := pairsIn_of_owns hp
  obtain ⟨a1, c1, rfl, -⟩ := ownsRow_slice hp
  obtain ⟨a2, c2, rfl, -⟩ := ownsRow_slice hlv
  clear hp hlv hS
  go_wp2_with fail
  go_ret
  exact ⟨⟨_, _, rfl, hP⟩, b1⟩
set_option maxRecDepth 100000 in
set_option maxHeartbeats 4000000 in
theorem refLeft_any (a : Option Addr) (cap : Nat) (l : List RunP) (hl : l.length ≤ 1000000) (w : World) (hI : RunsIn w.heap.size w (.slice a l.length cap) l) :
    Calls Try.prog 28 #[.slice a l.length cap] w fun e w' => (∃ a' cap', e = .returned (.slice a' (solveP l).left.length cap') ∧ IntsIn w'.heap.size w' (.slice a' (solveP l).left.length cap') (solveP l).left) ∧ Below w.heap.size w w' := by
  have hS := refSolve_any a cap l hl w hI
  clear hI
  go_enter Try.func28, Try.ntmps28
  go_wp2_with fail
  refine hS.mono ?_
  rintro e w1 ⟨⟨vp, vl, rfl, hp, hlv⟩, b1⟩
  have hP := intsIn_of_owns hlv
  obtain ⟨a1, c1, rfl, -⟩ := ownsRow_slice hp
  obtain ⟨a2, c2, rfl, -⟩ := ownsRow_slice hlv
  clear hp hlv hS
  go_wp2_with fail
  go_ret
  exact ⟨⟨_, _, rfl, hP⟩, b1⟩

namespace emphPairs
set_option maxHeartbeats 16000000 in
set_option maxRecDepth 100000 in
theorem walk (a : Option Addr) (l : List RunP) (cap : Nat) (hl : l.length * 24 ≤ reachBytes) (hx : ∀ r ∈ l, RunOk r) (w : World) (hI : RunsIn w.heap.size w (.slice a l.length cap) l) :
    Calls Try.prog 6 #[.slice a l.length cap] w fun e w' => e = .returned (.bool true) ∧ Below w.heap.size w w' := by
  have hl2 : l.length ≤ 4611686018427387904 := by unfold reachBytes at hl; omega
  have mixed : Try.prog.follows Departure.mixedOrders = true := rfl
  have hG := fun (w1 : World) (h : RunsIn w1.heap.size w1 (.slice a l.length cap) l) => greatR_any a cap l w1 hl2 h
  have HI := Lib.hid hI
  clear hI hl
  cases hg : greatR l
  · rw [hg] at hG
    obtain ⟨g1, g2⟩ := greatR_false hg
    have HCp := Lib.hid (fun (w1 : World) (h : RunsIn w1.heap.size w1 (.slice a l.length cap) l) => copies_any a cap l (by omega) w1 h)
    have HPr := Lib.hid (fun (a1 : Option Addr) (c1 : Nat) (w1 : World) (h : RunsIn w1.heap.size w1 (.slice a1 l.length c1) l) => pairs_any a1 c1 l (by omega) hx w1 h)
    have HRp := Lib.hid (fun (w1 : World) (h : RunsIn w1.heap.size w1 (.slice a l.length cap) l) => refPairs_any a cap l (by omega) w1 h)
    have HLf := Lib.hid (fun (a1 : Option Addr) (c1 : Nat) (w1 : World) (h : RunsIn w1.heap.size w1 (.slice a1 l.length c1) l) => left_any a1 c1 l (by omega) hx w1 h)
    have hRl := fun (w1 : World) (h : RunsIn w1.heap.size w1 (.slice a l.length cap) l) => refLeft_any a cap l (by omega) w1 h
    have HSI := Lib.hid (fun (a1 a2 : Option Addr) (c1 c2 : Nat) (w1 : World) h1 h2 => sameInts_any a1 a2 c1 c2 (solveP l).left (by rw [solve_len]; omega) w1 h1 h2)
    have HSR := Lib.hid (fun (a1 : Option Addr) (c1 : Nat) (w1 : World) h1 h2 => sameRuns_any a1 a c1 cap l (by omega) w1 h1 h2)
    have hln := solve_len l
    rw [hln] at hRl
    have HRl := Lib.hid hRl
    have HLN := Lib.hid hln
    have hpn : (solveP l).pairs.length ≤ 1000000000 := by
      have := goP_pairs l l.length (Nat.le_refl _)
      have e : (goP l l.length).pairs = (solveP l).pairs := rfl
      rw [e] at this
      omega
    clear hg g2 hx hRl hln
    generalize (solveP l).pairs = ps at *
    generalize (solveP l).left = lf at *
    go_enter Try.func6, Try.ntmps6
    go_wp2_with fail
    refine (emphAlive_any _).mono ?_
    rintro e w1 ⟨rfl, b1⟩
    go_wp2_with fail
    refine (hG w1 (HI.out.later b1)).mono ?_
    rintro e w2 ⟨rfl, rfl⟩
    go_wp2_with fail
    refine (HCp.out _ (HI.out.later b1)).mono ?_
    rintro e w3 ⟨⟨g3, c3, rfl, hO3⟩, b3⟩
    have d3 := b1.trans (b3.mono b1.size)
    have hR3 := runsIn_of_owns hO3
    go_wp2_with fail
    refine (HPr.out _ c3 w3 hR3).mono ?_
    rintro e w4 ⟨⟨a4, c4, rfl, hP4⟩, b4⟩
    have d4 := d3.trans (b4.mono d3.size)
    have hR4 := hR3.later b4
    clear hO3 hR3 b3 d3 b4 b1
    go_wp2_with fail
    refine (HRp.out w4 (HI.out.later d4)).mono ?_
    rintro e w5 ⟨⟨a5, c5, rfl, hP5⟩, b5⟩
    have d5 := d4.trans (b5.mono d4.size)
    have hR5 := hR4.later b5
    have hP45 := hP4.later b5
    clear hP4 hR4 b5 d4
    go_wp2_with fail
    refine (HLf.out _ c3 w5 hR5).mono ?_
    rintro e w6 ⟨⟨v6, rfl, hO6⟩, b6⟩
    have d6 := d5.trans (b6.mono d5.size)
    have hR6 := hR5.later b6
    have hP46 := hP45.later b6
    have hP56 := hP5.later b6
    have hI6 := intsIn_of_owns hO6
    obtain ⟨a6, c6, rfl, -⟩ := ownsRow_slice hO6
    rw [HLN.out] at hI6 ⊢
    clear hP45 hP5 hR5 b6 d5 hO6
    go_wp2_with fail
    refine (HRl.out w6 (HI.out.later d6)).mono ?_
    rintro e w7 ⟨⟨a7, c7, rfl, hI7⟩, b7⟩
    have d7 := d6.trans (b7.mono d6.size)
    have hR7 := hR6.later b7
    have hP47 := hP46.later b7
    have hP57 := hP56.later b7
    have hI67 := hI6.later b7
    have hSI := HSI.out a6 a7 c6 c7 w7
    rw [HLN.out] at hSI
    clear hP46 hP56 hR6 b7 d6 hI6
    go_wp2_with fail
    refine (hSI hI67 hI7).mono ?_
    rintro e w8 ⟨rfl, q8, rfl⟩
    have bq : Below w7.heap.size w7 (w7.drewN q8) := below_drewN (Below.refl _ _)
    have d8 := d7.trans (bq.mono d7.size)
    have hR8 := hR7.later bq
    have hP48 := hP47.later bq
    have hP58 := hP57.later bq
    clear hSI hI67 hI7 hP47 hP57 hR7 d7
    generalize w7.drewN q8 = w8 at *
    go_wp2_with fail
    refine (HSR.out _ c3 w8 hR8 (HI.out.later d8)).mono ?_
    rintro e w9 ⟨rfl, q9, rfl⟩
    have bq9 : Below w8.heap.size w8 (w8.drewN q9) := below_drewN (Below.refl _ _)
    have HD9 := Lib.hid (d8.trans (bq9.mono d8.size))
    have HP4 := Lib.hid (hP48.later bq9)
    have HP5 := Lib.hid (hP58.later bq9)
    clear hP48 hP58 hR8 d8 bq9 bq
    generalize w8.drewN q9 = w9 at *
    go_wp2_with fail
    go_loopw [6] (fun iv wr => ∃ k q : Nat, k ≤ ps.length ∧ iv = .int .i64 k ∧ wr = w9.drewN q) (fun iv _ => ps.length - (RowKit.intOf iv).toNat)
    case atStart => exact ⟨0, 0, Nat.zero_le _, rfl, rfl⟩
    case round =>
      obtain ⟨k, q, hk, rfl, rfl⟩ := hrel
      by_cases hlt : k < ps.length
      · have hlt' : (k : Int) < (ps.length : Int) := by omega
        obtain ⟨gp, op, rfl, -, -, hcs⟩ := HP4.out.at hlt
        obtain ⟨gq, oq, rfl, -, -, hds⟩ := HP5.out.at hlt
        obtain ⟨p0, p1, p2⟩ := hcs k hlt
        obtain ⟨q0, q1, q2⟩ := hds k hlt
        clear hcs hds
        generalize ps[k] = pp at *
        have z0 : (w9.drewN q).cell? ⟨gp, op + k * 3, none⟩ = some (.int .i64 pp.o) := p0
        have z1 : (w9.drewN q).cell? ⟨gp, op + k * 3 + 1, none⟩ = some (.int .i64 pp.c) := p1
        have z2 : (w9.drewN q).cell? ⟨gp, op + k * 3 + 2, none⟩ = some (.int .i64 pp.n) := p2
        have y0 : (w9.drewN q).cell? ⟨gq, oq + k * 3, none⟩ = some (.int .i64 pp.o) := q0
        have y1 : (w9.drewN q).cell? ⟨gq, oq + k * 3 + 1, none⟩ = some (.int .i64 pp.c) := q1
        have y2 : (w9.drewN q).cell? ⟨gq, oq + k * 3 + 2, none⟩ = some (.int .i64 pp.n) := q2
        generalize hwx : w9.drewN q = wx at *
        have HWX := Lib.hid hwx
        clear hwx
        go_wp2_with fail
        go_quiet (fail)
        go_wp2_with fail
        go_roundw
        case rel => exact ⟨k + 1, q + nq, by omega, by go_num, by rw [← HWX.out]; simp [World.drewN, Nat.add_assoc]⟩
        case measure => simp [RowKit.intOf]; omega
      · obtain rfl : k = ps.length := by omega
        have hlt' : ¬ (ps.length : Int) < (ps.length : Int) := by omega
        go_wp2_with fail
        go_ret
        exact ⟨rfl, below_drewN HD9.out⟩
  · rw [hg] at hG
    go_enter Try.func6, Try.ntmps6
    go_wp2_with fail
    refine (emphAlive_any _).mono ?_
    rintro e w1 ⟨rfl, b1⟩
    go_wp2_with fail
    refine (hG w1 (HI.out.later b1)).mono ?_
    rintro e w2 ⟨rfl, rfl⟩
    go_wp2_with fail
    go_ret
    exact ⟨rfl, b1⟩
end emphPairs
end Go.Proofs.Ytnijcglmfpiheaa
