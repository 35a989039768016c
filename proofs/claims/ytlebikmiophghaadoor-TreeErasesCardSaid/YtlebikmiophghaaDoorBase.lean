/-
  Small laws on worlds, rows and endings, of this work's own. Conditions: none.
-/
import Derived.WalkKit
import Derived.Below
import Derived.OwnWalk
import Derived.Deep.QuietTactic
import Derived.Lib.Hide
set_option linter.unusedSimpArgs false
set_option linter.unusedVariables false
namespace Go.Proofs.YtlebikmiophghaaDoor
open Go.RowKit Go.Lib

theorem below_drewN {B n : Nat} {a w : World} (h : Below B a w) : Below B a (w.drewN n) := ⟨h.os, h.tape, h.output, h.size, h.block⟩

/-- A row that is owned stays so where no block that there was has turned. -/
theorem ownsRow_below {w w' : World} {base n size : Nat} {e : TypeId} {v : Value} {xs : List Value} (h : w.ownsRow base e size v n xs) (hb : Below w.heap.size w w') : w'.ownsRow base e size v n xs := by
  refine ⟨h.1, ?_⟩
  rcases h.2 with hn | ⟨g, cap, cur, hv, hg, hh, rest⟩
  · exact .inl hn
  · have hlt := (Array.getElem?_eq_some_iff.1 hh).1
    exact .inr ⟨g, cap, cur, hv, hg, (hb.block g hlt).trans hh, rest⟩

/-- A row's block lies below the heap's end. -/
theorem ownsRow_lt {w : World} {base n size k : Nat} {e : TypeId} {v : Value} {xs : List Value} (h : w.ownsRow base e size v n xs) (hk : v.ownBlock = some k) : base ≤ k ∧ k < w.heap.size := by
  rcases h.2 with ⟨rfl, _⟩ | ⟨g, cap, cur, rfl, hg, hh, rest⟩
  · cases hk
  · cases hk
    exact ⟨hg, (Array.getElem?_eq_some_iff.1 hh).1⟩

theorem new_three (w : World) (T : TypeId) (a b c : Value) : ∀ j u, ([a, b, c] : List Value)[j]? = some u → (w.alloc (.cells #[a, b, c] T)).cell? ((⟨w.heap.size, 0, none⟩ : Addr).add j) = some u := by
  intro j u hu
  rw [Addr.add_lit, Nat.zero_add, World.cell?_alloc_new]
  simpa using hu
theorem new_three' (w : World) (T : TypeId) (a b c : Value) (L : Nat) (hL : L = w.heap.size) : ∀ j u, ([a, b, c] : List Value)[j]? = some u → (w.alloc (.cells #[a, b, c] T)).cell? ((⟨L, 0, none⟩ : Addr).add j) = some u := by
  subst hL; exact new_three w T a b c
theorem new_one (w : World) (T : TypeId) (a : Value) : ∀ j u, ([a] : List Value)[j]? = some u → (w.alloc (.cells #[a] T)).cell? ((⟨w.heap.size, 0, none⟩ : Addr).add j) = some u := by
  intro j u hu
  rw [Addr.add_lit, Nat.zero_add, World.cell?_alloc_new]
  simpa using hu

theorem block_three {w : World} {L : Nat} {a b c : Value} {T : TypeId} (h : w.heap[L]? = some (.cells #[a, b, c] T)) :
    w.cell? ⟨L, 0, none⟩ = some a ∧ w.cell? ⟨L, 1, none⟩ = some b ∧ w.cell? ⟨L, 2, none⟩ = some c ∧ w.frozen? ⟨L, 0, none⟩ = false ∧ w.frozen? ⟨L, 1, none⟩ = false ∧ w.frozen? ⟨L, 2, none⟩ = false := by
  simp [World.cell?, World.frozen?, h]
theorem set_second {w : World} {L : Nat} {a b c x : Value} {T : TypeId} (h : w.heap[L]? = some (.cells #[a, b, c] T)) : (w.setCell ⟨L, 1, none⟩ x).heap[L]? = some (.cells #[a, x, c] T) := by
  simp [World.setCell, Array.getElem?_modify, h]
theorem set_third {w : World} {L : Nat} {a b c x : Value} {T : TypeId} (h : w.heap[L]? = some (.cells #[a, b, c] T)) : (w.setCell ⟨L, 2, none⟩ x).heap[L]? = some (.cells #[a, b, x] T) := by
  simp [World.setCell, Array.getElem?_modify, h]
theorem one_three (a b c : Int) : ∀ u ∈ [Value.int .i64 a, .int .i64 b, .int .i64 c], u.oneCell' = true := by
  intro u hu
  simp only [List.mem_cons, List.mem_nil_iff, or_false] at hu
  rcases hu with rfl | rfl | rfl <;> rfl
theorem ret_bool {a b : Bool} (h : a = b) : Ending.returned (.bool a) = .returned (.bool b) := by rw [h]
theorem ret_int {a b : Int} (h : a = b) : Ending.returned (.int .i64 a) = .returned (.int .i64 b) := by rw [h]
end Go.Proofs.YtlebikmiophghaaDoor
