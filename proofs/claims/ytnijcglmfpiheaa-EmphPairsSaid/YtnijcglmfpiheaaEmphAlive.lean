/-
  alive: it returns true. Conditions: none.
-/
import Derived.Test.YtnijcglmfpiheaaEmphHelp
set_option linter.unusedSimpArgs false
set_option linter.unusedVariables false
namespace Go.Proofs.Ytnijcglmfpiheaa
open Go.RowKit Go.Lib

def aliveL : List RunP := [⟨42, 2, true, false⟩, ⟨42, 1, false, true⟩]
theorem alive_pairs : (solveP aliveL).pairs = [⟨0, 1, 1⟩] := by decide +kernel
theorem alive_left : (solveP aliveL).left = [1, 0] := by decide +kernel
theorem alive_ok : ∀ r ∈ aliveL, RunOk r := by
  intro r hr
  simp only [aliveL, List.mem_cons, List.mem_nil_iff, or_false] at hr
  rcases hr with rfl | rfl <;> exact ⟨by decide, by decide⟩
/-- A block that holds the cells of rows. -/
theorem runsIn_block {w : World} {g cap : Nat} {l : List RunP} {cs : Array Value} {T : TypeId} {fr : Nat × Nat} (h : w.heap[g]? = some (.cells cs T fr)) (hc : cs.toList.take (l.length * 4) = runCells l) : RunsIn w.heap.size w (.slice (some ⟨g, 0, none⟩) l.length cap) l := by
  refine ⟨_, _, rfl, fun _ => ⟨g, 0, rfl, (Array.getElem?_eq_some_iff.1 h).1, fun j hj => ?_⟩⟩
  have cellAt : ∀ c, c < 4 → w.cell? ⟨g, 0 + j * 4 + c, none⟩ = (runC l[j])[c]? := fun c hc4 => by
    have h1 := runCells_get l j hj c hc4
    rw [← hc, List.getElem?_take_of_lt (by omega)] at h1
    simp only [World.cell?, h]
    rw [← h1]; simp
  exact ⟨by simpa [runC] using cellAt 0 (by omega), by simpa [runC] using cellAt 1 (by omega), by simpa [runC] using cellAt 2 (by omega), by simpa [runC] using cellAt 3 (by omega)⟩
theorem intsIn_block {w : World} {g cap : Nat} {l : List Int} {cs : Array Value} {T : TypeId} {fr : Nat × Nat} (h : w.heap[g]? = some (.cells cs T fr)) (hc : cs.toList.take l.length = intCells l) : IntsIn w.heap.size w (.slice (some ⟨g, 0, none⟩) l.length cap) l := by
  refine ⟨_, _, rfl, fun _ => ⟨g, 0, rfl, (Array.getElem?_eq_some_iff.1 h).1, fun j hj => ?_⟩⟩
  have hu : (intCells l)[j]? = some (.int .i64 l[j]) := by unfold intCells; rw [List.getElem?_map, List.getElem?_eq_getElem hj]; rfl
  rw [← hc, List.getElem?_take_of_lt (by omega)] at hu
  simp only [World.cell?, h]
  simpa using hu

set_option maxRecDepth 100000 in
set_option maxHeartbeats 4000000 in
theorem emphAlive_any (w : World) : Calls Try.prog 21 #[] w fun e w' => e = .returned (.bool true) ∧ Below w.heap.size w w' := by
  have hN : Below w.heap.size w (w.alloc (.cells #[.int .u8 42, .int .i64 2, .bool true, .bool false, .int .u8 42, .int .i64 1, .bool false, .bool true] 42)) := (Below.refl _ w).alloc (Nat.le_refl _) _
  have hR : RunsIn (w.alloc (.cells #[.int .u8 42, .int .i64 2, .bool true, .bool false, .int .u8 42, .int .i64 1, .bool false, .bool true] 42)).heap.size (w.alloc (.cells #[.int .u8 42, .int .i64 2, .bool true, .bool false, .int .u8 42, .int .i64 1, .bool false, .bool true] 42)) (.slice (some ⟨w.heap.size, 0, none⟩) aliveL.length 2) aliveL := runsIn_block (heap_alloc_new w _) rfl
  have hP := pairs_any (some ⟨w.heap.size, 0, none⟩) 2 aliveL (by decide) alive_ok _ hR
  have hL := fun (X : World) (h : RunsIn X.heap.size X (.slice (some ⟨w.heap.size, 0, none⟩) aliveL.length 2) aliveL) => left_any (some ⟨w.heap.size, 0, none⟩) 2 aliveL (by decide) alive_ok X h
  rw [alive_pairs] at hP
  rw [alive_left] at hL
  have hl2 : aliveL.length = 2 := rfl
  have hp1 : ([⟨0, 1, 1⟩] : List PairP).length = 1 := rfl
  have hi2 : ([1, 0] : List Int).length = 2 := rfl
  rw [hl2, hp1] at hP
  have HR := Lib.hid hR
  have HN := Lib.hid hN
  clear hR hN
  go_enter Try.func21, Try.ntmps21
  go_wp2_with fail
  refine hP.mono ?_
  rintro e w1 ⟨⟨a1, c1, rfl, hp⟩, b1⟩
  clear hP
  have hR1 := (HR.out.later b1)
  obtain ⟨g, off, rfl, hg, -, hc⟩ := PairsIn.at (l := [⟨0, 1, 1⟩]) hp (show 0 < 1 by decide)
  obtain ⟨c0, c1', c2⟩ := hc 0 (by decide)
  rw [show off + 0 * 3 = off by omega] at c0 c1' c2
  have c0 : w1.cell? ⟨g, off, none⟩ = some (.int .i64 0) := c0
  have c1' : w1.cell? ⟨g, off + 1, none⟩ = some (.int .i64 1) := c1'
  have c2 : w1.cell? ⟨g, off + 2, none⟩ = some (.int .i64 1) := c2
  have hLL := hL w1 hR1
  rw [hl2, hi2] at hLL
  clear hc hp hL hl2 hp1 hR1
  have HB1 := Lib.hid (HN.out.trans (b1.mono HN.out.size))
  clear b1
  go_wp2_with fail
  refine hLL.mono ?_
  clear hLL
  rintro e w2 ⟨⟨v, rfl, ho⟩, b2⟩
  have hI2 := intsIn_of_owns ho
  obtain ⟨a2, cc2, rfl, -⟩ := ownsRow_slice ho
  have hA : Below w2.heap.size w2 (w2.alloc (.cells #[.int .i64 1, .int .i64 0] 3)) := (Below.refl _ w2).alloc (Nat.le_refl _) _
  have hS := sameInts_any a2 (some ⟨w2.heap.size, 0, none⟩) cc2 2 [1, 0] (by decide) _ (hI2.later hA) (intsIn_block (heap_alloc_new w2 (.cells #[.int .i64 1, .int .i64 0] 3)) rfl)
  rw [hi2] at hS
  have HB2 := Lib.hid ((HB1.out.trans (b2.mono HB1.out.size)).trans (hA.mono (Nat.le_trans HB1.out.size b2.size)))
  clear hI2 ho b2 hA hi2 c0 c1' c2
  go_wp2_with fail
  refine hS.mono ?_
  rintro e w3 ⟨rfl, q, rfl⟩
  go_wp2_with fail
  go_ret
  exact ⟨rfl, below_drewN HB2.out⟩
end Go.Proofs.Ytnijcglmfpiheaa
