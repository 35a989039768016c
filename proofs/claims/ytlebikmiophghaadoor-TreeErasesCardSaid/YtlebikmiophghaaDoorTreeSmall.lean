/-
  Small: the tree of one letter. Conditions: none.
-/
import Derived.Test.YtlebikmiophghaaDoorTreeShow
set_option linter.unusedSimpArgs false
set_option linter.unusedVariables false
namespace Go.Proofs.YtlebikmiophghaaDoor
open Go.Shelf Go.RowKit Go.Lib

def smallN (k1 : Int) : List NodeP := [⟨1, 0, 1, 0, ⟨#[]⟩, ⟨#[]⟩, ⟨#[]⟩, false, [1], []⟩, ⟨5, 0, 1, 0, ⟨#[]⟩, ⟨#[]⟩, ⟨#[]⟩, false, [k1], []⟩, ⟨10, 0, 1, 0, ⟨#[97]⟩, ⟨#[]⟩, ⟨#[]⟩, false, [], []⟩]
def smallC (b1 b2 : Nat) : Array Value := #[.int .i64 1, .int .i64 0, .int .i64 1, .int .i64 0, .string ⟨#[]⟩, .string ⟨#[]⟩, .string ⟨#[]⟩, .bool false, .slice (some ⟨b1, 0, none⟩) 1 1, .slice none 0 0,
  .int .i64 5, .int .i64 0, .int .i64 1, .int .i64 0, .string ⟨#[]⟩, .string ⟨#[]⟩, .string ⟨#[]⟩, .bool false, .slice (some ⟨b2, 0, none⟩) 1 1, .slice none 0 0,
  .int .i64 10, .int .i64 0, .int .i64 1, .int .i64 0, .string ⟨#[97]⟩, .string ⟨#[]⟩, .string ⟨#[]⟩, .bool false, .slice none 0 0, .slice none 0 0]
theorem ints_one {w : World} {b : Nat} {x : Int} {T : TypeId} (h : w.heap[b]? = some (.cells #[.int .i64 x] T)) : IntsIn w.heap.size w (.slice (some ⟨b, 0, none⟩) ([x] : List Int).length 1) [x] := by
  refine ⟨_, _, rfl, fun _ => ⟨b, 0, rfl, (Array.getElem?_eq_some_iff.1 h).1, fun j hj => ?_⟩⟩
  obtain rfl : j = 0 := by simp at hj; omega
  simp [World.cell?, h]
theorem small_nodes {w : World} {b b1 b2 : Nat} {k1 : Int} {T U : TypeId} (h : w.heap[b]? = some (.cells (smallC b1 b2) T)) (h1 : w.heap[b1]? = some (.cells #[.int .i64 1] U)) (h2 : w.heap[b2]? = some (.cells #[.int .i64 k1] U)) : NodesIn w.heap.size w (.slice (some ⟨b, 0, none⟩) 3 3) (smallN k1) := by
  have hc : ∀ i v, (smallC b1 b2)[i]? = some v → w.cell? ⟨b, i, none⟩ = some v := fun i v hv => by
    simp only [World.cell?, h]; exact hv
  have i1 := ints_one h1
  have i2 := ints_one h2
  have hn : IntsIn w.heap.size w (.slice none ([] : List Int).length 0) [] := ⟨none, 0, rfl, fun h => absurd rfl h⟩
  have hp : PiecesIn w.heap.size w (.slice none ([] : List PieceP).length 0) [] := ⟨none, 0, rfl, fun h => absurd rfl h⟩
  refine ⟨_, _, rfl, fun _ => ⟨b, 0, rfl, (Array.getElem?_eq_some_iff.1 h).1, fun j hj => ?_⟩⟩
  have hj3 : j < 3 := hj
  have : j = 0 ∨ j = 1 ∨ j = 2 := by omega
  rcases this with rfl | rfl | rfl
  · exact ⟨hc 0 _ rfl, hc 1 _ rfl, hc 2 _ rfl, hc 3 _ rfl, hc 4 _ rfl, hc 5 _ rfl, hc 6 _ rfl, hc 7 _ rfl, ⟨_, _, hc 8 _ rfl, i1⟩, ⟨_, _, hc 9 _ rfl, hp⟩⟩
  · exact ⟨hc 10 _ rfl, hc 11 _ rfl, hc 12 _ rfl, hc 13 _ rfl, hc 14 _ rfl, hc 15 _ rfl, hc 16 _ rfl, hc 17 _ rfl, ⟨_, _, hc 18 _ rfl, i2⟩, ⟨_, _, hc 19 _ rfl, hp⟩⟩
  · exact ⟨hc 20 _ rfl, hc 21 _ rfl, hc 22 _ rfl, hc 23 _ rfl, hc 24 _ rfl, hc 25 _ rfl, hc 26 _ rfl, hc 27 _ rfl, ⟨_, _, hc 28 _ rfl, hn⟩, ⟨_, _, hc 29 _ rfl, hp⟩⟩

theorem four_blocks (w : World) (o0 o1 o2 o3 : Obj) : (fun X : World => X.heap[w.heap.size]? = some o0 ∧ X.heap[w.heap.size + 1]? = some o1 ∧ X.heap[w.heap.size + 1 + 1]? = some o2 ∧ X.heap[w.heap.size + 1 + 1 + 1]? = some o3 ∧ Below w.heap.size w X) ((((w.alloc o0).alloc o1).alloc o2).alloc o3) := by
  have e0 := heap_alloc_new w o0
  have b0 : Below w.heap.size w (w.alloc o0) := (Below.refl _ w).alloc (Nat.le_refl _) _
  have s0 : (w.alloc o0).heap.size = w.heap.size + 1 := by simp
  generalize w.alloc o0 = w0 at *
  have e1 := heap_alloc_new w0 o1
  have b1 : Below w0.heap.size w0 (w0.alloc o1) := (Below.refl _ w0).alloc (Nat.le_refl _) _
  have s1 : (w0.alloc o1).heap.size = w0.heap.size + 1 := by simp
  generalize w0.alloc o1 = w1 at *
  have e2 := heap_alloc_new w1 o2
  have b2 : Below w1.heap.size w1 (w1.alloc o2) := (Below.refl _ w1).alloc (Nat.le_refl _) _
  have s2 : (w1.alloc o2).heap.size = w1.heap.size + 1 := by simp
  generalize w1.alloc o2 = w2 at *
  have e3 := heap_alloc_new w2 o3
  have b3 : Below w2.heap.size w2 (w2.alloc o3) := (Below.refl _ w2).alloc (Nat.le_refl _) _
  generalize w2.alloc o3 = w3 at *
  rw [s0] at e1 s1
  rw [s1] at e2 s2
  rw [s2] at e3
  exact ⟨(b3.block _ (by omega)).trans ((b2.block _ (by omega)).trans ((b1.block _ (by omega)).trans e0)), (b3.block _ (by omega)).trans ((b2.block _ (by omega)).trans e1), (b3.block _ (by omega)).trans e2, e3, b0.trans ((b1.mono (by omega)).trans ((b2.mono (by omega)).trans (b3.mono (by omega))))⟩
set_option maxRecDepth 100000 in
set_option maxHeartbeats 4000000 in
theorem small_any (w : World) : Calls Tryd.prog 34 #[] w fun e w' => e = .returned (.agg #[.slice (some ⟨w.heap.size + 1 + 1 + 1, 0, none⟩) 3 3]) ∧ (w'.heap[w.heap.size + 1 + 1 + 1]? = some (.cells (smallC (w.heap.size + 1) (w.heap.size + 1 + 1)) 33) ∧ w'.heap[w.heap.size + 1]? = some (.cells #[.int .i64 1] 3) ∧ w'.heap[w.heap.size + 1 + 1]? = some (.cells #[.int .i64 2] 3)) ∧ Below w.heap.size w w' := by
  go_enter Tryd.func34, Tryd.ntmps34
  go_wp2
  obtain ⟨h0, h1, h2, h3, hb⟩ := four_blocks w (.cells #[.slice (some ⟨w.heap.size + 1 + 1 + 1, 0, none⟩) 3 3] 24) (.cells #[.int .i64 1] 3) (.cells #[.int .i64 2] 3) (.cells (smallC (w.heap.size + 1) (w.heap.size + 1 + 1)) 33)
  exact bodyPost_ret (v := .agg #[.slice (some ⟨w.heap.size + 1 + 1 + 1, 0, none⟩) 3 3]) (results_cell_row rfl _ _ w.heap.size 24 _ (0, 0) _ rfl h0 Tryd.underlying24 rfl (by kernel_rfl)) rfl ⟨rfl, ⟨h3, h1, h2⟩, hb⟩
end Go.Proofs.YtlebikmiophghaaDoor
