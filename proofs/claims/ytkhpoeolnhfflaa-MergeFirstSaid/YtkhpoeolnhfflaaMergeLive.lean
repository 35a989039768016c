/-
  stetlaw24.alive: true. Conditions: none.
-/
import Derived.Test.YtkhpoeolnhfflaaMergeAlive
import Derived.Deep.RegionWith
import Derived.Deep.Cut
set_option linter.unusedSimpArgs false
set_option linter.unusedVariables false
namespace Go.Proofs.Ytkhpoeolnhfflaa
open Go.Shelf Go.RowKit Go.Lib Go.Sort

theorem EditsT.drew {w : World} {v : Value} {l : List EditP} (h : EditsT w v l) : EditsT w.drew v l := h.later (Below.refl _ w).drew

theorem ints_block {w : World} {L : Nat} {l : List Int} {F : Nat × Nat} (h : w.heap[L]? = some (.cells (intCells l).toArray 3 F)) : IntsIn w.heap.size w (.slice (some ⟨L, 0, none⟩) l.length l.length) l := by
  refine ⟨_, _, rfl, fun _ => ⟨L, 0, rfl, (Array.getElem?_eq_some_iff.1 h).1, fun j hj => ?_⟩⟩
  simp [World.cell?, h, intCells, hj]
theorem size_drewN (w : World) (q : Nat) : (w.drewN q).heap.size = w.heap.size := rfl
theorem heap_new_at (w : World) (o : Obj) (L : Nat) (h : L = w.heap.size) : (w.alloc o).heap[L]? = some o := by subst h; exact heap_alloc_new w o
theorem ints_at {w : World} {L : Nat} {l : List Int} (h : L = w.heap.size) : IntsIn (w.alloc (.cells (intCells l).toArray 3)).heap.size (w.alloc (.cells (intCells l).toArray 3)) (.slice (some ⟨L, 0, none⟩) l.length l.length) l := ints_block (heap_new_at _ _ _ h)
theorem ints_at2 {w : World} {q : Nat} {o : Obj} {l : List Int} : IntsIn (((w.alloc o).drewN q).alloc (.cells (intCells l).toArray 3)).heap.size (((w.alloc o).drewN q).alloc (.cells (intCells l).toArray 3)) (.slice (some ⟨w.heap.size + 1, 0, none⟩) l.length l.length) l := ints_at (by rw [size_drewN]; simp)
theorem alive_row {w wN wX : World} {P L LA LB : Nat} (hB1 : Below w.heap.size w wN) (hX : Below wN.heap.size wN wX) (hP : P < wN.heap.size) (p3 : wX.cell? ⟨P, 3, none⟩ = some (.slice (some ⟨L, 0, none⟩) 1 1)) (hE1 : EditsT wN (.slice (some ⟨L, 0, none⟩) 1 1) (oneF 1 2).edits) (hEA : EditsT wX (.slice (some ⟨LA, 0, none⟩) 1 1) (oneF 2 3).edits) (hEB : EditsT wX (.slice (some ⟨LB, 0, none⟩) 1 1) (oneF 0 2).edits) :
    FindsIn (wX.alloc (.cells #[.int .i64 0, .int .i64 0, .int .i64 0, .slice (some ⟨L, 0, none⟩) 1 1, .int .i64 0, .int .i64 0, .int .i64 0, .slice (some ⟨L, 0, none⟩) 1 1, .int .i64 0, .int .i64 0, .int .i64 0, .slice (some ⟨LA, 0, none⟩) 1 1, .int .i64 0, .int .i64 0, .int .i64 0, .slice (some ⟨LB, 0, none⟩) 1 1] 37)).heap.size (wX.alloc (.cells #[.int .i64 0, .int .i64 0, .int .i64 0, .slice (some ⟨L, 0, none⟩) 1 1, .int .i64 0, .int .i64 0, .int .i64 0, .slice (some ⟨L, 0, none⟩) 1 1, .int .i64 0, .int .i64 0, .int .i64 0, .slice (some ⟨LA, 0, none⟩) 1 1, .int .i64 0, .int .i64 0, .int .i64 0, .slice (some ⟨LB, 0, none⟩) 1 1] 37)) (.slice (some ⟨wX.heap.size, 0, none⟩) 4 4) aliveL ∧
    P < (wX.alloc (.cells #[.int .i64 0, .int .i64 0, .int .i64 0, .slice (some ⟨L, 0, none⟩) 1 1, .int .i64 0, .int .i64 0, .int .i64 0, .slice (some ⟨L, 0, none⟩) 1 1, .int .i64 0, .int .i64 0, .int .i64 0, .slice (some ⟨LA, 0, none⟩) 1 1, .int .i64 0, .int .i64 0, .int .i64 0, .slice (some ⟨LB, 0, none⟩) 1 1] 37)).heap.size ∧
    (wX.alloc (.cells #[.int .i64 0, .int .i64 0, .int .i64 0, .slice (some ⟨L, 0, none⟩) 1 1, .int .i64 0, .int .i64 0, .int .i64 0, .slice (some ⟨L, 0, none⟩) 1 1, .int .i64 0, .int .i64 0, .int .i64 0, .slice (some ⟨LA, 0, none⟩) 1 1, .int .i64 0, .int .i64 0, .int .i64 0, .slice (some ⟨LB, 0, none⟩) 1 1] 37)).cell? ⟨P, 3, none⟩ = some (.slice (some ⟨L, 0, none⟩) 1 1) ∧
    EditsIn (wX.alloc (.cells #[.int .i64 0, .int .i64 0, .int .i64 0, .slice (some ⟨L, 0, none⟩) 1 1, .int .i64 0, .int .i64 0, .int .i64 0, .slice (some ⟨L, 0, none⟩) 1 1, .int .i64 0, .int .i64 0, .int .i64 0, .slice (some ⟨LA, 0, none⟩) 1 1, .int .i64 0, .int .i64 0, .int .i64 0, .slice (some ⟨LB, 0, none⟩) 1 1] 37)).heap.size (wX.alloc (.cells #[.int .i64 0, .int .i64 0, .int .i64 0, .slice (some ⟨L, 0, none⟩) 1 1, .int .i64 0, .int .i64 0, .int .i64 0, .slice (some ⟨L, 0, none⟩) 1 1, .int .i64 0, .int .i64 0, .int .i64 0, .slice (some ⟨LA, 0, none⟩) 1 1, .int .i64 0, .int .i64 0, .int .i64 0, .slice (some ⟨LB, 0, none⟩) 1 1] 37)) (.slice (some ⟨L, 0, none⟩) 1 1) (oneF 1 2).edits ∧
    Below w.heap.size w (wX.alloc (.cells #[.int .i64 0, .int .i64 0, .int .i64 0, .slice (some ⟨L, 0, none⟩) 1 1, .int .i64 0, .int .i64 0, .int .i64 0, .slice (some ⟨L, 0, none⟩) 1 1, .int .i64 0, .int .i64 0, .int .i64 0, .slice (some ⟨LA, 0, none⟩) 1 1, .int .i64 0, .int .i64 0, .int .i64 0, .slice (some ⟨LB, 0, none⟩) 1 1] 37)) := by
  have zX := hX.size
  have zw := hB1.size
  generalize hC : Obj.cells #[.int .i64 0, .int .i64 0, .int .i64 0, .slice (some ⟨L, 0, none⟩) 1 1, .int .i64 0, .int .i64 0, .int .i64 0, .slice (some ⟨L, 0, none⟩) 1 1, .int .i64 0, .int .i64 0, .int .i64 0, .slice (some ⟨LA, 0, none⟩) 1 1, .int .i64 0, .int .i64 0, .int .i64 0, .slice (some ⟨LB, 0, none⟩) 1 1] 37 = C
  have hA : Below wX.heap.size wX (wX.alloc C) := (Below.refl _ wX).alloc (Nat.le_refl _) _
  have hz : (wX.alloc C).heap.size = wX.heap.size + 1 := by simp
  have e1 := ((hE1.later hX).later hA).held
  refine ⟨?_, by omega, (hA.cell (p := ⟨P, 3, none⟩) (show P < wX.heap.size by omega)).trans p3, e1, hB1.trans ((hX.mono zw).trans (hA.mono (by omega)))⟩
  have hb := heap_alloc_new wX C
  rw [← hC] at hb ⊢
  rw [← hC] at e1 hA
  exact four_finds (a := oneF 1 2) (b := oneF 1 2) (c := oneF 2 3) (d := oneF 0 2) hb (by simp) e1 e1 (hEA.later hA).held (hEB.later hA).held

set_option maxHeartbeats 20000000 in
set_option maxRecDepth 100000 in
theorem mergeAlive_any (w : World) : Calls Try.prog 13 #[] w fun e w' => e = .returned (.bool true) ∧ Below w.heap.size w w' := by
  have mixed : Try.prog.follows Departure.mixedOrders = true := rfl
  go_enter Try.func13, Try.ntmps13
  go_wp2_with fail
  refine (func0_any 1 2 _).mono ?_
  rintro e w1 ⟨⟨L, rfl, hL, hE⟩, b1⟩
  have hn := heap_alloc_new w1 (.cells #[.int .i64 0, .int .i64 0, .int .i64 0, .slice (some ⟨L, 0, none⟩) 1 1] 37)
  have hz : (w1.alloc (.cells #[.int .i64 0, .int .i64 0, .int .i64 0, .slice (some ⟨L, 0, none⟩) 1 1] 37)).heap.size = w1.heap.size + 1 := by simp
  have HP : RowKit.Hid (∀ w', Below (w1.alloc (.cells #[.int .i64 0, .int .i64 0, .int .i64 0, .slice (some ⟨L, 0, none⟩) 1 1] 37)).heap.size (w1.alloc (.cells #[.int .i64 0, .int .i64 0, .int .i64 0, .slice (some ⟨L, 0, none⟩) 1 1] 37)) w' →
      w'.cell? ⟨w1.heap.size, 0, none⟩ = some (.int .i64 0) ∧ w'.cell? ⟨w1.heap.size, 1, none⟩ = some (.int .i64 0) ∧ w'.cell? ⟨w1.heap.size, 2, none⟩ = some (.int .i64 0) ∧ w'.cell? ⟨w1.heap.size, 3, none⟩ = some (.slice (some ⟨L, 0, none⟩) 1 1)) := fun w' h => block_four ((h.block _ (by omega)).trans hn)
  have HE1 := Lib.hid (hE.later ((Below.refl _ w1).alloc (Nat.le_refl _) (.cells #[.int .i64 0, .int .i64 0, .int .i64 0, .slice (some ⟨L, 0, none⟩) 1 1] 37)))
  have HB1 := Lib.hid (b1.alloc b1.size (.cells #[.int .i64 0, .int .i64 0, .int .i64 0, .slice (some ⟨L, 0, none⟩) 1 1] 37))
  clear hE b1 hn
  go_wp2_with fail
  generalize w1.alloc (.cells #[.int .i64 0, .int .i64 0, .int .i64 0, .slice (some ⟨L, 0, none⟩) 1 1] 37) = wN at *
  generalize w1.heap.size = P at *
  go_cut [1, 2] from 3 (fun pv lv wc => pv = .pointer (some ⟨P, 0, none⟩) ∧ ∃ M, lv = .slice (some ⟨M, 0, none⟩) 4 4 ∧ FindsIn wc.heap.size wc (.slice (some ⟨M, 0, none⟩) 4 4) aliveL ∧ P < wc.heap.size ∧ wc.cell? ⟨P, 3, none⟩ = some (.slice (some ⟨L, 0, none⟩) 1 1) ∧ EditsIn wc.heap.size wc (.slice (some ⟨L, 0, none⟩) 1 1) (oneF 1 2).edits ∧ Below w.heap.size w wc)
  case first =>
    have hW : Below wN.heap.size wN wN := Below.refl _ _
    obtain ⟨p0, p1, p2, p3⟩ := HP.out _ hW
    go_region_with (first
      | (go_at_call_of 27 (Value.int .i64 3); refine (func0_any 2 3 _).mono ?_; rintro e wA ⟨⟨LA, rfl, hLA, hEA⟩, bA⟩; have hA : Below wN.heap.size wN wA := (by first | exact hB.trans (bA.mono hB.size) | exact (Below.refl _ wN).drew.trans (bA.mono (Nat.le_refl _))); obtain ⟨p0, p1, p2, p3⟩ := HP.out _ hA)
      | (go_at_call_of 27 (Value.int .i64 0); refine (func0_any 0 2 _).mono ?_; rintro e wB ⟨⟨LB, rfl, hLB, hEB⟩, bB⟩; have hB : Below wN.heap.size wN wB := (by first | exact hA.trans (bB.mono hA.size) | exact (Below.refl _ wN).drew.trans (bB.mono (Nat.le_refl _))); obtain ⟨p0, p1, p2, p3⟩ := HP.out _ hB))
    all_goals
      go_wp2_with fail
      go_meet
      case rel => exact ⟨rfl, _, rfl, by first | exact alive_row HB1.out hA (by omega) p3 HE1.out hEA (hEB.later bA) | exact alive_row HB1.out hB (by omega) p3 HE1.out (hEA.later bB) hEB⟩
  case rest =>
    obtain ⟨rfl, M, rfl, hF, hPl, hp3, hE, hB⟩ := hcut
    have HALL : RowKit.Hid (∀ X, Below wc.heap.size wc X → FindsIn X.heap.size X (.slice (some ⟨M, 0, none⟩) aliveL.length 4) aliveL ∧ EditsIn X.heap.size X (.slice (some ⟨L, 0, none⟩) (oneF 1 2).edits.length 1) (oneF 1 2).edits) := fun X h => ⟨hF.later h, hE.later0 h⟩
    obtain ⟨g, off, eM, hg, -, hc⟩ := FindsIn.at (l := aliveL) hF (show 2 < aliveL.length by decide)
    injection eM with eM
    injection eM with eM1 eM2
    subst eM1 eM2
    obtain ⟨-, -, -, aQ, cQ, q3, hQ⟩ := hc 2 (by decide)
    have q3' : wc.cell? ⟨M, 11, none⟩ = some (.slice aQ 1 cQ) := q3
    have HCE : RowKit.Hid (∀ X, Below wc.heap.size wc X → X.cell? ⟨P, 3, none⟩ = some (.slice (some ⟨L, 0, none⟩) 1 1) ∧ X.cell? ⟨M, 11, none⟩ = some (.slice aQ 1 cQ)) := fun X h => ⟨(h.cell (p := ⟨P, 3, none⟩) hPl).trans hp3, (h.cell (p := ⟨M, 11, none⟩) hg).trans q3'⟩
    have kCh : ∀ X, Below wc.heap.size wc X → Calls Try.prog 17 #[.slice (some ⟨M, 0, none⟩) 4 4] X fun e w' => (∃ a' c', e = .returned (.slice a' 2 c') ∧ IntsIn w'.heap.size w' (.slice a' 2 c') [0, 2]) ∧ Below X.heap.size X w' := fun X h => by
      have := mergeChoose_any (some ⟨M, 0, none⟩) 4 aliveL (by decide) (by decide) X (HALL.out X h).1
      rw [aliveL_choose] at this
      exact this
    have kEd : ∀ X K, Below wc.heap.size wc X → IntsIn X.heap.size X (.slice (some ⟨K, 0, none⟩) 3 3) [0, 2, 9] → Calls Try.prog 21 #[.slice (some ⟨M, 0, none⟩) 4 4, .slice (some ⟨K, 0, none⟩) 3 3] X fun e w' => (∃ a' c', e = .returned (.slice a' 2 c')) ∧ Below wc.heap.size wc w' := fun X K h hI => by
      have := mergeEdits_any (some ⟨M, 0, none⟩) (some ⟨K, 0, none⟩) 4 3 aliveL [0, 2, 9] (by decide) (by decide) (by decide) X (HALL.out X h).1 hI
      rw [aliveL_edits] at this
      exact this.mono fun e w' ⟨⟨a', c', h1, _⟩, h2⟩ => ⟨⟨a', c', h1⟩, h.trans (h2.mono h.size)⟩
    have kC1 : ∀ X, Below wc.heap.size wc X → Calls Try.prog 24 #[.slice (some ⟨L, 0, none⟩) 1 1, .slice (some ⟨L, 0, none⟩) 1 1] X fun e w' => e = .returned (.bool true) ∧ Below wc.heap.size wc w' := fun X h => by
      have := mergeClash_any (some ⟨L, 0, none⟩) (some ⟨L, 0, none⟩) 1 1 (oneF 1 2).edits (oneF 1 2).edits (by decide) (by decide) X (HALL.out X h).2 (HALL.out X h).2
      rw [aliveL_clash] at this
      exact this.mono fun e w' ⟨h1, h2⟩ => ⟨h1, h.trans (h2.mono h.size)⟩
    have kC2 : ∀ X, Below wc.heap.size wc X → Calls Try.prog 24 #[.slice (some ⟨L, 0, none⟩) 1 1, .slice aQ 1 cQ] X fun e w' => e = .returned (.bool false) ∧ Below wc.heap.size wc w' := fun X h => by
      have := mergeClash_any (some ⟨L, 0, none⟩) aQ 1 cQ (oneF 1 2).edits (oneF 2 3).edits (by decide) (by decide) X (HALL.out X h).2 (EditsIn.later0 (l := (oneF 2 3).edits) hQ h)
      rw [aliveL_apart] at this
      exact this.mono fun e w' ⟨h1, h2⟩ => ⟨h1, h.trans (h2.mono h.size)⟩
    have HB := Lib.hid hB
    have hW : Below wc.heap.size wc wc.drew := (Below.refl _ wc).drew
    clear hF hE hc q3 q3' hQ hB HB1 HE1 HP
    go_wp2_with fail
    go_region_with (first
      | (go_at_call 17; refine (kCh _ ?_).mono ?_; (first | exact hW | exact hW.alloc hW.size _); rintro e wC ⟨⟨aC, cC, rfl, hIC⟩, bC⟩)
      | (go_at_call 16; refine (sameInts_any _ _ _ _ [0, 2] (by decide) _ ?_ ?_).mono ?_; (first | exact hIC | exact hIC.later ((Below.refl _ _).alloc (Nat.le_refl _) _)); (first | exact ints_block (heap_alloc_new _ _) | exact (ints_at (l := [0, 2]) (w := wc.drew) rfl).later bC); rintro e wS ⟨rfl, qS, rfl⟩; have hW2 : Below wc.heap.size wc wC := (by first | exact hW.trans (bC.mono hW.size) | exact (hW.alloc hW.size _).trans (bC.mono (hW.alloc hW.size _).size)))
      | (go_at_call 21; refine (kEd _ _ ?_ ?_).mono ?_; (first | exact (below_drewN hW2).alloc (below_drewN hW2).size _ | exact (below_drewN (hW2.alloc hW2.size _)).alloc (below_drewN (hW2.alloc hW2.size _)).size _); (first | exact ints_at2 (l := [0, 2, 9]) | exact ints_at (l := [0, 2, 9]) rfl); rintro e wE ⟨⟨aE, cE, rfl⟩, hW3⟩; obtain ⟨p3, m3⟩ := HCE.out _ hW3)
      | (go_at_call_of 24 aQ; refine (kC2 _ hW4).mono ?_; rintro e wF ⟨rfl, hW5⟩)
      | (go_at_call 24; refine (kC1 _ hW3).mono ?_; rintro e wF ⟨rfl, hW4⟩; obtain ⟨p4, m4⟩ := HCE.out _ hW4))
    all_goals
      go_wp2_with fail
      go_ret
      exact ⟨rfl, HB.out.trans (hW5.mono HB.out.size)⟩
end Go.Proofs.Ytkhpoeolnhfflaa
