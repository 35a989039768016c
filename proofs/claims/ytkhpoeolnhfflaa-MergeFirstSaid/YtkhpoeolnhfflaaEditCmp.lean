/-
  The comparing of two edits: cmp.Compare, cmp.Or and the function that edit.Sorted hands to the sort. Conditions: none.
-/
import Derived.Test.YtkhpoeolnhfflaaSortT
import Derived.StillTailTactics
set_option linter.unusedSimpArgs false
set_option linter.unusedVariables false
namespace Go.Proofs.Ytkhpoeolnhfflaa
open Go.Shelf Go.RowKit Go.Lib Go.Sort

/-- An edit: the bytes from 'fr' to 'to', and what stands in their place. -/
structure EditP where
  fr : Int
  to : Int
  text : ByteArray
instance : Inhabited EditP := ⟨⟨0, 0, ByteArray.empty⟩⟩
def encE (e : EditP) : List Value := [.int .i64 e.fr, .int .i64 e.to, .string e.text]
def cmpI (x y : Int) : Int := if x < y then -1 else if y < x then 1 else 0
def cfE (x y : EditP) : Int := if cmpI x.fr y.fr ≠ 0 then cmpI x.fr y.fr else cmpI x.to y.to
/-- An edit stands ahead of another one. -/
def ltE (x y : EditP) : Bool := decide (x.fr < y.fr) || (decide (x.fr = y.fr) && decide (x.to < y.to))
theorem ltOf_cfE : ltOf cfE = ltE := by
  funext x y
  unfold ltOf cfE cmpI ltE
  rw [Bool.eq_iff_iff]
  simp only [decide_eq_true_eq, Bool.or_eq_true, Bool.and_eq_true]
  split <;> split <;> (try split) <;> (try split) <;> omega
theorem swoE : SWO ltE where
  irrefl x := by simp [ltE]
  trans x y z := by simp only [ltE, Bool.or_eq_true, Bool.and_eq_true, decide_eq_true_eq]; omega
  ntrans x y z := by simp only [ltE, Bool.or_eq_false_iff, Bool.and_eq_false_iff, decide_eq_false_iff_not]; omega
theorem swoC : SWO (ltOf cfE) := by rw [ltOf_cfE]; exact swoE

set_option maxHeartbeats 1000000 in
theorem isNaN_any (x : Int) (w : World) : Calls Try.prog 56 #[.int .i64 x] w fun e w' => e = .returned (.bool false) ∧ w' = w := by
  go_enter Try.func56, Try.ntmps56
  go_wp2
  go_ret
  exact ⟨by simp, rfl⟩

set_option maxHeartbeats 1000000 in
theorem compare_any (x y : Int) (w : World) : Calls Try.prog 49 #[.int .i64 x, .int .i64 y] w fun e w' => e = .returned (.int .i64 (cmpI x y)) ∧ w' = w := by
  unfold cmpI
  go_enter Try.func49, Try.ntmps49
  go_wp2_with fail
  refine (isNaN_any _ _).mono ?_
  rintro e w1 ⟨rfl, rfl⟩
  go_wp2_with fail
  refine (isNaN_any _ _).mono ?_
  rintro e w1 ⟨rfl, rfl⟩
  by_cases h1 : x < y
  · go_wp2_with fail
    go_ret
    exact ⟨by simp [h1], rfl⟩
  · by_cases h2 : y < x
    · go_wp2_with fail
      go_ret
      exact ⟨by simp [h1, h2], rfl⟩
    · go_wp2_with fail
      go_ret
      exact ⟨by simp [h1, h2], rfl⟩

set_option maxHeartbeats 1000000 in
theorem or_two (a b : Int) (g : Nat) (w : World) (h0 : w.cell? ⟨g, 0, none⟩ = some (.int .i64 a)) (h1 : w.cell? ⟨g, 1, none⟩ = some (.int .i64 b)) :
    Calls Try.prog 48 #[.slice (some ⟨g, 0, none⟩) 2 2] w fun e w' => e = .returned (.int .i64 (if a ≠ 0 then a else b)) ∧ w' = w := by
  go_enter Try.func48, Try.ntmps48
  go_wp2
  by_cases ha : a = 0
  · subst ha
    by_cases hb : b = 0
    · subst hb
      refine wp_loop_rounds 3 ?_
      rw [rounds_succ]
      go_wp2
      rw [rounds_succ]
      go_wp2
      rw [rounds_succ]
      go_wp2
      go_ret
      exact ⟨by simp, rfl⟩
    · refine wp_loop_rounds 2 ?_
      rw [rounds_succ]
      go_wp2
      rw [rounds_succ]
      go_wp2
      go_ret
      exact ⟨by simp, rfl⟩
  · refine wp_loop_rounds 2 ?_
    rw [rounds_succ]
    go_wp2
    go_ret
    exact ⟨by simp [ha], rfl⟩

theorem block_two {w : World} {L : Nat} {a b : Value} {T : TypeId} (h : w.heap[L]? = some (.cells #[a, b] T)) : w.cell? ⟨L, 0, none⟩ = some a ∧ w.cell? ⟨L, 1, none⟩ = some b := by
  simp [World.cell?, h]
theorem block_two3 {w : World} {L : Nat} {a b c : Value} {T : TypeId} (h : w.heap[L]? = some (.cells #[a, b, c] T)) : w.cell? ⟨L, 0, none⟩ = some a ∧ w.cell? ⟨L, 1, none⟩ = some b := by
  simp [World.cell?, h]
theorem grow_three (w : World) (a b c : Obj) : (((w.alloc a).alloc b).drew.alloc c) = grow (w.drewN 1) #[a, b, c] := by
  simp only [alloc_eq_grow, grow_grow, drew_grow]; rfl

set_option maxHeartbeats 8000000 in
set_option maxRecDepth 100000 in
theorem cmpE_any (x y : EditP) (w : World) : Calls Try.prog 47 #[.agg (encE x).toArray, .agg (encE y).toArray] w fun e w' => e = .returned (.int .i64 (cfE x y)) ∧ ∃ q os, w' = grow (w.drewN q) os := by
  have hcf : cfE x y = if cmpI x.fr y.fr ≠ 0 then cmpI x.fr y.fr else cmpI x.to y.to := rfl
  rw [hcf]
  have k1 := fun w => compare_any x.fr y.fr w
  have k2 := fun w => compare_any x.to y.to w
  obtain ⟨x0, x1, x2⟩ := x
  obtain ⟨y0, y1, y2⟩ := y
  simp only at k1 k2 ⊢
  unfold encE
  generalize cmpI x0 y0 = r at *
  generalize cmpI x1 y1 = s at *
  go_enter Try.func47, Try.ntmps47
  go_wp2_with fail
  have cA := heap_alloc_new w (.cells #[.int .i64 x0, .int .i64 x1, .string x2] 50)
  have mixed : Try.prog.follows Departure.mixedOrders = true := rfl
  have cB := heap_alloc_new (w.alloc (.cells #[.int .i64 x0, .int .i64 x1, .string x2] 50)) (.cells #[.int .i64 y0, .int .i64 y1, .string y2] 50)
  have cA2 := (Below.heap_alloc (w.alloc (.cells #[.int .i64 x0, .int .i64 x1, .string x2] 50)) (.cells #[.int .i64 y0, .int .i64 y1, .string y2] 50) w.heap.size (by simp)).trans cA
  rw [World.size_alloc] at cB
  obtain ⟨wd, hwd⟩ : ∃ wd, wd = ((w.alloc (.cells #[.int .i64 x0, .int .i64 x1, .string x2] 50)).alloc (.cells #[.int .i64 y0, .int .i64 y1, .string y2] 50)).drew := ⟨_, rfl⟩
  obtain ⟨a0, a1⟩ := block_two3 (w := wd) (by rw [hwd]; exact cA2)
  obtain ⟨b0, b1⟩ := block_two3 (w := wd) (by rw [hwd]; exact cB)
  refine wp_region_still_tail 10 mixed (by kernel_rfl) ?_
  simp only [List.take_succ_cons, List.take_zero, List.drop_succ_cons, List.drop_zero]
  change wpStill _ _ (World.drew _) _ _ _
  rw [← hwd]
  have HW := Lib.hid hwd
  clear hwd cA cA2 cB
  repeat still_step
  still_call (k1 _)
  repeat still_step
  still_call (k2 _)
  refine wpStill_nil ?_
  change wpList _ _ _ _ _ (World.drew _)
  rw [← HW.out]
  clear a0 a1 b0 b1
  go_wp2_with fail
  refine (or_two r s _ _ (block_two (heap_alloc_new _ _)).1 (block_two (heap_alloc_new _ _)).2).mono ?_
  rintro e w4 ⟨rfl, rfl⟩
  go_wp2_with fail
  all_goals
    go_ret
    exact ⟨rfl, 1, _, by rw [HW.out]; exact grow_three _ _ _ _⟩
end Go.Proofs.Ytkhpoeolnhfflaa
