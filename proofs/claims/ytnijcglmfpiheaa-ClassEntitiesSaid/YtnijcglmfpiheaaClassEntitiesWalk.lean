/-
  The walk of ClassEntities: it returns true whatever the name. Conditions: none.
-/
import Derived.Test.YtnijcglmfpiheaaRefEntity
namespace Go.Proofs.Ytnijcglmfpiheaa
open Go.RowKit

theorem ret_bool {a b : Bool} (h : a = b) : Ending.returned (.bool a) = .returned (.bool b) := by rw [h]

theorem entFirst_mem (s : List UInt8) (l : List (List UInt8 × Int)) (n : Int) (h : entFirst s l = some n) : ∃ p ∈ l, p.2 = n := by
  induction l with
  | nil => cases h
  | cons p l ih =>
    by_cases e : p.1 = s
    · simp only [entFirst, e, if_true, Option.some.injEq] at h
      exact ⟨p, by simp, h⟩
    · simp only [entFirst, e, if_false] at h
      obtain ⟨q, hq, h2⟩ := ih h
      exact ⟨q, by simp [hq], h2⟩
theorem entTab_nums : (entTab.all fun p => decide (0 < p.2) && decide (p.2 < 55296)) = true := by decide

theorem ent_bounds (s : List UInt8) : (entHas s == decide (0 < entNum s)) = true ∧ entNum s < 55296 := by
  unfold entHas entNum
  cases h : entFirst s entTab with
  | none => decide
  | some n =>
    obtain ⟨p, hp, rfl⟩ := entFirst_mem s entTab n h
    have := List.all_eq_true.1 entTab_nums p hp
    simp only [Bool.and_eq_true, decide_eq_true_eq] at this
    simp [this]

namespace classEntities
set_option maxHeartbeats 1000000 in
theorem walk (s : ByteArray) (hs : s.size ≤ maxLen) (w : World) :
    Calls Try.prog 3 #[.string s] w fun e w' => e = .returned (.bool true) ∧ Below w.heap.size w w' := by
  have HC := Lib.hid (show entNum [99, 111, 112, 121] = 169 ∧ entHas [99, 111, 112, 121] = true by decide +kernel)
  obtain ⟨hb1, hb2⟩ := ent_bounds s.data.toList
  go_enter Try.func3, Try.ntmps3
  go_wp2_with fail
  refine (entity_any _ (by decide) _).mono ?_
  rintro e w1 ⟨rfl, b1⟩
  simp only [HC.out.1, HC.out.2]
  go_wp2_with fail
  refine (entity_any _ hs _).mono ?_
  rintro e w2 ⟨rfl, b2⟩
  go_wp2_with fail
  refine (ref_entity_any s _).mono ?_
  rintro e w3 ⟨rfl, b3⟩
  have bel : Below w.heap.size w w3 := by
    have z1 := b1.size
    have z2 := b2.size
    exact b1.trans ((b2.mono (by omega)).trans (b3.mono (by omega)))
  clear b1 b2 b3 HC
  generalize entNum s.data.toList = n at *
  generalize entHas s.data.toList = h at *
  by_cases hn : 0 < n
  · have e : h = true := by simpa [hn] using hb1
    subst e
    clear hb1
    go_wp2_with fail
    go_ret
    exact ⟨rfl, bel⟩
  · have e : h = false := by simpa [hn] using hb1
    subst e
    clear hb1
    go_wp2_with fail
    go_ret
    exact ⟨ret_bool (by simpa using hn), bel⟩
end classEntities
end Go.Proofs.Ytnijcglmfpiheaa
