/-
  merge.clash, Clash and stetref24.Clash: do edits clash with others? Conditions: at most 1000000 edits.
-/
import Derived.Test.YtkhpoeolnhfflaaEditCheck
set_option linter.unusedSimpArgs false
set_option linter.unusedVariables false
namespace Go.Proofs.Ytkhpoeolnhfflaa
open Go.Shelf Go.RowKit Go.Lib Go.Sort

def clash1 (x y : EditP) : Bool := (decide (y.fr < x.to) && decide (x.fr < y.to)) || (decide (x.fr = y.fr) && decide (x.to = y.to))
def clashP (a b : List EditP) : Bool := a.any fun x => b.any fun y => clash1 x y

set_option maxHeartbeats 2000000 in
set_option maxRecDepth 100000 in
theorem clash_any (x y : EditP) (w : World) : Calls Try.prog 41 #[.agg (encE x).toArray, .agg (encE y).toArray] w fun e w' => e = .returned (.bool (clash1 x y)) ∧ Below w.heap.size w w' := by
  obtain ⟨x0, x1, x2⟩ := x
  obtain ⟨y0, y1, y2⟩ := y
  have hcl : clash1 ⟨x0, x1, x2⟩ ⟨y0, y1, y2⟩ = ((decide (y0 < x1) && decide (x0 < y1)) || (decide (x0 = y0) && decide (x1 = y1))) := rfl
  have hN : Below w.heap.size w ((w.alloc (.cells #[.int .i64 x0, .int .i64 x1, .string x2] 50)).alloc (.cells #[.int .i64 y0, .int .i64 y1, .string y2] 50)) := ((Below.refl _ w).alloc (Nat.le_refl _) _).alloc (by simp) _
  rw [hcl]
  unfold encE
  by_cases h0 : y0 < x1
  · have d0 : decide (y0 < x1) = true := decide_eq_true h0
    by_cases h1 : x0 < y1
    · have d1 : decide (x0 < y1) = true := decide_eq_true h1
      go_enter Try.func41, Try.ntmps41
      go_wp2_with fail
      go_ret
      exact ⟨by simp [h0, h1], hN⟩
    · have d1 : decide (x0 < y1) = false := decide_eq_false h1
      by_cases h2 : x0 = y0
      · subst h2
        by_cases h3 : x1 = y1
        · subst h3
          exact absurd h0 h1
        · have b3 : (x1 == y1) = false := beq_eq_false_iff_ne.2 h3
          go_enter Try.func41, Try.ntmps41
          go_wp2_with fail
          go_ret
          exact ⟨by simp [h1, h3], hN⟩
      · have b2 : (x0 == y0) = false := beq_eq_false_iff_ne.2 h2
        go_enter Try.func41, Try.ntmps41
        go_wp2_with fail
        go_ret
        exact ⟨by simp [h1, h2], hN⟩
  · have d0 : decide (y0 < x1) = false := decide_eq_false h0
    by_cases h2 : x0 = y0
    · subst h2
      by_cases h3 : x1 = y1
      · subst h3
        go_enter Try.func41, Try.ntmps41
        go_wp2_with fail
        go_ret
        exact ⟨by simp, hN⟩
      · have b3 : (x1 == y1) = false := beq_eq_false_iff_ne.2 h3
        go_enter Try.func41, Try.ntmps41
        go_wp2_with fail
        go_ret
        exact ⟨by simp [h0, h3], hN⟩
    · have b2 : (x0 == y0) = false := beq_eq_false_iff_ne.2 h2
      go_enter Try.func41, Try.ntmps41
      go_wp2_with fail
      go_ret
      exact ⟨by simp [h0, h2], hN⟩

set_option maxHeartbeats 2000000 in
set_option maxRecDepth 100000 in
theorem clashIn_any (x y : EditP) (L : Nat) (w : World) (hL : L < w.heap.size) (hx : EditAt w L 0 x) :
    Calls Try.prog 40 #[.agg (encE y).toArray, .pointer (some ⟨L, 0, none⟩)] w fun e w' => e = .returned (.bool (clash1 x y)) ∧ Below w.heap.size w w' := by
  have kc := fun w => clash_any x y w
  generalize clash1 x y = b at *
  obtain ⟨x0, x1, x2⟩ := x
  obtain ⟨y0, y1, y2⟩ := y
  obtain ⟨c0, c1, c2⟩ := hx
  simp only at c0 c1 c2
  unfold encE at *
  simp only at kc ⊢
  have hN : Below w.heap.size w (w.alloc (.cells #[.int .i64 y0, .int .i64 y1, .string y2] 50)) := (Below.refl _ w).alloc (Nat.le_refl _) _
  have d0 := (hN.cell (p := ⟨L, 0, none⟩) hL).trans c0
  have d1 := (hN.cell (p := ⟨L, 0 + 1, none⟩) hL).trans c1
  have d2 := (hN.cell (p := ⟨L, 0 + 2, none⟩) hL).trans c2
  rw [Nat.zero_add] at d1 d2
  go_enter Try.func40, Try.ntmps40
  go_wp2_with fail
  refine (kc _).mono ?_
  rintro e w1 ⟨rfl, b1⟩
  go_wp2_with fail
  go_ret
  exact ⟨rfl, hN.trans (b1.mono (by simp))⟩

set_option maxHeartbeats 2000000 in
set_option maxRecDepth 100000 in
theorem clashOut_any (x : EditP) (L : Nat) (ab : Option Addr) (cb : Nat) (b : List EditP) (hb : b.length ≤ 1000000) (w : World) (hL : L < w.heap.size) (hc : w.cell? ⟨L, 0, none⟩ = some (.slice ab b.length cb)) (hI : EditsIn w.heap.size w (.slice ab b.length cb) b) :
    Calls Try.prog 39 #[.agg (encE x).toArray, .pointer (some ⟨L, 0, none⟩)] w fun e w' => e = .returned (.bool (b.any fun y => clash1 x y)) ∧ Below w.heap.size w w' := by
  have hN : Below w.heap.size w (w.alloc (.cells #[.int .i64 x.fr, .int .i64 x.to, .string x.text] 50)) := (Below.refl _ w).alloc (Nat.le_refl _) _
  have hn := heap_alloc_new w (.cells #[.int .i64 x.fr, .int .i64 x.to, .string x.text] 50)
  have hNs : (w.alloc (.cells #[.int .i64 x.fr, .int .i64 x.to, .string x.text] 50)).heap.size = w.heap.size + 1 := by simp
  have d0 := (hN.cell (p := ⟨L, 0, none⟩) hL).trans hc
  obtain ⟨e0, e1, e2, -⟩ := block_three hn
  have kC := containsFunc_any 40 #[.pointer (some ⟨w.heap.size, 0, none⟩)] (fun y => clash1 x y) (enters_of Try.func40 (by kernel_rfl) rfl) ab cb b hb _ ((hI.below hN).mono (by omega)) (fun y wx hx => by
    have hz := hx.size
    exact clashIn_any x y w.heap.size wx (by omega) ⟨(hx.cell (p := ⟨w.heap.size, 0, none⟩) (by show w.heap.size < _; omega)).trans e0, (hx.cell (p := ⟨w.heap.size, 0 + 1, none⟩) (by show w.heap.size < _; omega)).trans e1, (hx.cell (p := ⟨w.heap.size, 0 + 2, none⟩) (by show w.heap.size < _; omega)).trans e2⟩)
  have HN := Lib.hid hN
  clear hn e0 e1 e2 hI hc hN
  generalize (b.any fun y => clash1 x y) = r at *
  unfold encE
  go_enter Try.func39, Try.ntmps39
  go_wp2_with fail
  refine kC.mono ?_
  clear kC
  rintro e w1 ⟨rfl, b1⟩
  go_wp2_with fail
  go_ret
  exact ⟨rfl, HN.out.trans (b1.mono (by omega))⟩

set_option maxHeartbeats 2000000 in
set_option maxRecDepth 100000 in
theorem mergeClash_any (aa ab : Option Addr) (ca cb : Nat) (a b : List EditP) (ha : a.length ≤ 1000000) (hb : b.length ≤ 1000000) (w : World) (hA : EditsIn w.heap.size w (.slice aa a.length ca) a) (hB : EditsIn w.heap.size w (.slice ab b.length cb) b) :
    Calls Try.prog 24 #[.slice aa a.length ca, .slice ab b.length cb] w fun e w' => e = .returned (.bool (clashP a b)) ∧ Below w.heap.size w w' := by
  have hN : Below w.heap.size w (w.alloc (.cells #[.slice ab b.length cb] 30)) := (Below.refl _ w).alloc (Nat.le_refl _) _
  have hNs : (w.alloc (.cells #[.slice ab b.length cb] 30)).heap.size = w.heap.size + 1 := by simp
  have e0 : (w.alloc (.cells #[.slice ab b.length cb] 30)).cell? ⟨w.heap.size, 0, none⟩ = some (.slice ab b.length cb) := by simp
  have hBN := (hB.below hN).mono (show w.heap.size ≤ (w.alloc (.cells #[.slice ab b.length cb] 30)).heap.size by omega)
  have kC := containsFunc_any 39 #[.pointer (some ⟨w.heap.size, 0, none⟩)] (fun x => b.any fun y => clash1 x y) (enters_of Try.func39 (by kernel_rfl) rfl) aa ca a ha _ ((hA.below hN).mono (by omega)) (fun x wx hx => by
    have hz := hx.size
    exact clashOut_any x w.heap.size ab cb b hb wx (by omega) ((hx.cell (p := ⟨w.heap.size, 0, none⟩) (by show w.heap.size < _; omega)).trans e0) ((hBN.below hx).mono hz))
  have HN := Lib.hid hN
  have hcp : (a.any fun x => b.any fun y => clash1 x y) = clashP a b := rfl
  rw [hcp] at kC
  clear e0 hBN hA hB hN hcp
  generalize clashP a b = r at *
  go_enter Try.func24, Try.ntmps24
  go_wp2_with fail
  refine kC.mono ?_
  clear kC
  rintro e w1 ⟨rfl, b1⟩
  go_wp2_with fail
  go_ret
  exact ⟨rfl, HN.out.trans (b1.mono (by omega))⟩
end Go.Proofs.Ytkhpoeolnhfflaa
