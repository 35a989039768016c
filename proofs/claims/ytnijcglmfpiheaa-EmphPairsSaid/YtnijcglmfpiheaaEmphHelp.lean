/-
  The helpers of the laws of emphasis: copies, same, great, SameInts. Conditions: bounds on sizes.
-/
import Derived.Test.YtnijcglmfpiheaaEmphLeft
import Derived.BigQuiet
set_option linter.unusedSimpArgs false
set_option linter.unusedVariables false
namespace Go.Proofs.Ytnijcglmfpiheaa
open Go.RowKit Go.Lib

theorem ownsRow_ltA {w : World} {base n size g : Nat} {e : TypeId} {v : Value} {xs : List Value} (h : w.ownsRow base e size v n xs) (hv : v.ownBlock = some g) : base ≤ g ∧ g < w.heap.size := by
  obtain ⟨cs, fr, hc⟩ := ownsRow_typed h g hv
  exact ⟨ownsRow_base h hv, (Array.getElem?_eq_some_iff.1 hc).1⟩
theorem below_grow {B : Nat} {w w1 w2 : World} {r : Option Nat} (h : Below B w w1) (hg : w1.grownBy w2 r) (hB : B ≤ w1.heap.size) (hr : ∀ g, r = some g → B ≤ g) : Below B w w2 :=
  ⟨hg.os.trans h.os, hg.tape.trans h.tape, hg.output.trans h.output, Nat.le_trans h.size hg.size, fun i hi => (hg.block i (Nat.lt_of_lt_of_le hi hB) fun e => by have := hr i e.symm; omega).trans (h.block i hi)⟩

set_option maxRecDepth 100000 in
set_option maxHeartbeats 4000000 in
theorem copies_any (a : Option Addr) (cap : Nat) (l : List RunP) (hl : l.length ≤ 1000000) (w : World) (hI : RunsIn w.heap.size w (.slice a l.length cap) l) :
    Calls Try.prog 23 #[.slice a l.length cap] w fun e w' => (∃ g cap', e = .returned (.slice (some ⟨g, 0, none⟩) l.length cap') ∧ w'.ownsRow w.heap.size 42 4 (.slice (some ⟨g, 0, none⟩) l.length cap') l.length (runCells l)) ∧ Below w.heap.size w w' := by
  obtain ⟨i0, hi, hz0, hz1, hz2⟩ := info_parts infoRun
  have hN : Below w.heap.size w (w.alloc (.cells #[] 42)) := (Below.refl _ w).alloc (Nat.le_refl _) _
  have hown : (w.alloc (.cells #[] 42)).ownsRow w.heap.size 42 4 (.slice (some ⟨w.heap.size, 0, none⟩) 0 0) 0 [] := ⟨rfl, .inr ⟨w.heap.size, 0, #[], rfl, Nat.le_refl _, heap_alloc_new w _, Nat.le_refl _, by decide, rfl, rfl⟩⟩
  rcases a with _ | ad
  · have h0 : l = [] := by
      apply Classical.byContradiction
      intro hne
      obtain ⟨a', cap', hv, hr⟩ := hI
      obtain ⟨g, off, rfl, _⟩ := hr hne
      simp at hv
    subst h0
    go_enter Try.func23, Try.ntmps23
    go_wp2_with fail
    go_ret
    exact ⟨⟨_, _, rfl, hown⟩, hN⟩
  · have hcs := runsIn_cells (hI.below hN)
    have hcl := runCells_length l
    have hone := runCells_one l
    have b1 : 0 + l.length ≤ maxLen := by unfold maxLen; omega
    have b2 : (0 + l.length) * 24 ≤ 140737488355328 := by omega
    have b3 : w.heap.size ≤ (w.alloc (.cells #[] 42)).heap.size := by simp
    clear hI
    go_enter Try.func23, Try.ntmps23
    go_wp2_with (at_builtin; (refine wpList_append_own_at _ rfl _ _ 29 rfl w.heap.size 42 i0 (.agg #[.int .u8 0, .int .i64 0, .bool false, .bool false]) 4 24 Try.underlying29 hi hz0 hz1 hz2 rfl (by decide) _ _ _ rfl hown ad l.length cap (runCells l) rfl hcl hcs hone b1 b2 b3 ?_); intro v' w4 hown' hgrow hnil _)
    go_ret
    rw [Nat.zero_add, List.nil_append] at hown'
    rcases id hown'.2 with ⟨hv, -⟩ | ⟨g, cap', cur, hv, -⟩
    · have := (hnil.1 hv).1
      injection this with h1
      cases h1
    · subst hv
      exact ⟨⟨g, cap', rfl, hown'⟩, below_grow hN hgrow (by simp) (fun k hk => ownsRow_base hown hk)⟩

set_option maxHeartbeats 4000000 in
set_option maxRecDepth 100000 in
theorem sameRuns_any (a1 a2 : Option Addr) (c1 c2 : Nat) (l : List RunP) (hl : l.length ≤ 1000000) (w : World) (h1 : RunsIn w.heap.size w (.slice a1 l.length c1) l) (h2 : RunsIn w.heap.size w (.slice a2 l.length c2) l) :
    Calls Try.prog 29 #[.slice a1 l.length c1, .slice a2 l.length c2] w fun e w' => e = .returned (.bool true) ∧ ∃ q, w' = w.drewN q := by
  have H1 := Lib.hid h1
  have H2 := Lib.hid h2
  have mixed : Try.prog.follows Departure.mixedOrders = true := rfl
  clear h1 h2
  go_enter Try.func29, Try.ntmps29
  go_wp2
  go_loopw [5] (fun iv wr => ∃ k q : Nat, k ≤ l.length ∧ iv = .int .i64 k ∧ wr = w.drewN q) (fun iv _ => l.length - (RowKit.intOf iv).toNat)
  case atStart => exact ⟨0, 0, Nat.zero_le _, rfl, rfl⟩
  case round =>
    obtain ⟨k, q, hk, rfl, rfl⟩ := hrel
    by_cases hlt : k < l.length
    · have hlt' : (k : Int) < (l.length : Int) := by omega
      obtain ⟨g, off, rfl, hg, -, hc⟩ := H1.out.at hlt
      obtain ⟨g2, off2, rfl, hg2, -, hc2⟩ := H2.out.at hlt
      obtain ⟨c0, c1, c2, c3⟩ := hc k hlt
      obtain ⟨d0, d1, d2, d3⟩ := hc2 k hlt
      clear hc hc2
      generalize l[k] = e at *
      go_wp2_with fail
      go_quiet (fail)
      go_wp2_with fail
      go_roundw
      case rel => exact ⟨k + 1, q + nq, by omega, by go_num, rfl⟩
      case measure => simp [RowKit.intOf]; omega
    · obtain rfl : k = l.length := by omega
      go_wp2
      go_ret
      exact ⟨rfl, q, rfl⟩

set_option maxHeartbeats 2000000 in
set_option maxRecDepth 100000 in
theorem sameInts_any (a1 a2 : Option Addr) (c1 c2 : Nat) (l : List Int) (hl : l.length ≤ 1000000) (w : World) (h1 : IntsIn w.heap.size w (.slice a1 l.length c1) l) (h2 : IntsIn w.heap.size w (.slice a2 l.length c2) l) :
    Calls Try.prog 26 #[.slice a1 l.length c1, .slice a2 l.length c2] w fun e w' => e = .returned (.bool true) ∧ ∃ q, w' = w.drewN q := by
  have H1 := Lib.hid h1
  have H2 := Lib.hid h2
  have mixed : Try.prog.follows Departure.mixedOrders = true := rfl
  clear h1 h2
  go_enter Try.func26, Try.ntmps26
  go_wp2
  go_loopw [5] (fun iv wr => ∃ k q : Nat, k ≤ l.length ∧ iv = .int .i64 k ∧ wr = w.drewN q) (fun iv _ => l.length - (RowKit.intOf iv).toNat)
  case atStart => exact ⟨0, 0, Nat.zero_le _, rfl, rfl⟩
  case round =>
    obtain ⟨k, q, hk, rfl, rfl⟩ := hrel
    by_cases hlt : k < l.length
    · have hlt' : (k : Int) < (l.length : Int) := by omega
      obtain ⟨g, off, rfl, hg, -, hc⟩ := H1.out.at hlt
      obtain ⟨g2, off2, rfl, hg2, -, hc2⟩ := H2.out.at hlt
      have c0 := hc k hlt
      have d0 := hc2 k hlt
      clear hc hc2
      generalize l[k] = e at *
      go_wp2_with fail
      go_quiet (fail)
      go_wp2_with fail
      go_roundw
      case rel => exact ⟨k + 1, q + nq, by omega, by go_num, rfl⟩
      case measure => simp [RowKit.intOf]; omega
    · obtain rfl : k = l.length := by omega
      go_wp2
      go_ret
      exact ⟨rfl, q, rfl⟩

/-- How many marks are gone through. -/
def sumL (l : List RunP) : Int := (l.map startL).sum
theorem sumL_snoc (l : List RunP) (r : RunP) : sumL (l ++ [r]) = sumL l + startL r := by simp [sumL]
theorem sumL_nonneg (l : List RunP) : 0 ≤ sumL l := by
  induction l with
  | nil => exact Int.le_refl _
  | cons x t ih =>
    have := startL_nonneg x
    have e : sumL (x :: t) = startL x + sumL t := by simp [sumL]
    omega
theorem sumL_take (l : List RunP) (k : Nat) : sumL (l.take k) ≤ sumL l := by
  have h : sumL l = sumL (l.take k) + sumL (l.drop k) := by
    rw [sumL, sumL, sumL, ← List.sum_append, ← List.map_append, List.take_append_drop]
  have := sumL_nonneg (l.drop k)
  omega
def greatR (l : List RunP) : Bool := decide (300 < l.length) || decide (3000 < sumL l)
theorem greatR_false {l : List RunP} (h : greatR l = false) : l.length ≤ 300 ∧ sumL l ≤ 3000 := by
  simp [greatR] at h
  omega

set_option maxHeartbeats 4000000 in
set_option maxRecDepth 100000 in
theorem greatR_any (a : Option Addr) (cap : Nat) (l : List RunP) (w : World) (hl : l.length ≤ 4611686018427387904) (hI : RunsIn w.heap.size w (.slice a l.length cap) l) :
    Calls Try.prog 22 #[.slice a l.length cap] w fun e w' => e = .returned (.bool (greatR l)) ∧ w' = w := by
  by_cases h3 : 300 < l.length
  · have hr : greatR l = true := by simp [greatR, h3]
    rw [hr]
    have h3' : (300 : Int) < (l.length : Int) := by omega
    clear hI
    go_enter Try.func22, Try.ntmps22
    go_wp2_with fail
    go_ret
    exact ⟨rfl, rfl⟩
  · have h3' : ¬ (300 : Int) < (l.length : Int) := by omega
    have HI := Lib.hid hI
    have HS : RowKit.Hid (∀ (k : Nat) (hk : k < l.length), sumL (l.take (k + 1)) = sumL (l.take k) + startL l[k]) := fun k hk => by rw [List.take_succ_eq_append_getElem hk, sumL_snoc]
    have HT : RowKit.Hid (∀ k, 3000 < sumL (l.take k) → greatR l = true) := fun k hk => by
      have := sumL_take l k
      have : 3000 < sumL l := by omega
      simp [greatR, this]
    have HF : RowKit.Hid (sumL (l.take l.length) ≤ 3000 → greatR l = false) := fun hk => by
      rw [List.take_length] at hk
      simp [greatR]
      omega
    clear hI
    go_enter Try.func22, Try.ntmps22
    go_wp2_with fail
    go_loopw [3, 4] (fun nv iv wr => ∃ k : Nat, k ≤ l.length ∧ iv = .int .i64 k ∧ nv = .int .i64 (sumL (l.take k)) ∧ 0 ≤ sumL (l.take k) ∧ sumL (l.take k) ≤ 3000 ∧ wr = w) (fun _ iv _ => l.length - (RowKit.intOf iv).toNat)
    case atStart => exact ⟨0, Nat.zero_le _, rfl, rfl, by simp [sumL], by simp [sumL], rfl⟩
    case round =>
      obtain ⟨k, hk, rfl, rfl, hn0, hn1, rfl⟩ := hrel
      by_cases hlt : k < l.length
      · have hlt' : (k : Int) < (l.length : Int) := by omega
        obtain ⟨g, off, rfl, hg, -, hc⟩ := HI.out.at hlt
        obtain ⟨c0, c1, c2, c3⟩ := hc k hlt
        have HK := Lib.hid (HS.out k hlt)
        have HT1 := Lib.hid (HT.out (k + 1))
        have hst : startL l[k] = if l[k].n < 1 ∨ 1048576 < l[k].n then 0 else l[k].n := rfl
        clear hc HT HF HS
        generalize l[k] = r at *
        generalize sumL (l.take k) = s at *
        by_cases hp : r.n > 0
        · by_cases hq : r.n ≤ 1048576
          · rw [if_neg (by omega)] at hst
            have hs' : sumL (l.take (k + 1)) = s + r.n := by rw [HK.out, hst]
            by_cases ht : s + r.n > 3000
            · have hT := HT1.out (by omega)
              clear HT1 HK hst hs'
              have HTT := Lib.hid hT
              clear hT
              go_wp2_with fail
              go_ret
              exact ⟨by rw [HTT.out]; rfl, rfl⟩
            · have HS' := Lib.hid hs'
              clear HT1 HK hst hs'
              go_wp2_with fail
              go_roundw
              case rel => exact ⟨k + 1, by omega, by go_num, by rw [HS'.out], by rw [HS'.out]; omega, by rw [HS'.out]; omega, by first | rfl | trivial⟩
              case measure => simp [RowKit.intOf]; omega
          · rw [if_pos (by omega)] at hst
            have hs' : sumL (l.take (k + 1)) = s := by rw [HK.out, hst]; omega
            have HS' := Lib.hid hs'
            have ht : ¬ s > 3000 := by omega
            clear HT1 HK hst hs'
            go_wp2_with fail
            go_roundw
            case rel => exact ⟨k + 1, by omega, by go_num, by rw [HS'.out], by rw [HS'.out]; omega, by rw [HS'.out]; omega, by first | rfl | trivial⟩
            case measure => simp [RowKit.intOf]; omega
        · rw [if_pos (by omega)] at hst
          have hs' : sumL (l.take (k + 1)) = s := by rw [HK.out, hst]; omega
          have HS' := Lib.hid hs'
          have ht : ¬ s > 3000 := by omega
          clear HT1 HK hst hs'
          go_wp2_with fail
          go_roundw
          case rel => exact ⟨k + 1, by omega, by go_num, by rw [HS'.out], by rw [HS'.out]; omega, by rw [HS'.out]; omega, by first | rfl | trivial⟩
          case measure => simp [RowKit.intOf]; omega
      · obtain rfl : k = l.length := by omega
        have hF := HF.out hn1
        have HFF := Lib.hid hF
        clear HT HF HS hF
        generalize sumL (l.take l.length) = s at *
        go_wp2_with fail
        go_ret
        exact ⟨by rw [HFF.out]; rfl, rfl⟩
end Go.Proofs.Ytnijcglmfpiheaa
