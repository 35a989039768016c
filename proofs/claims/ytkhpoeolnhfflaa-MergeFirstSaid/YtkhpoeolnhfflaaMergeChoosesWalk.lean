/-
  The walks of MergeChooses and MergeEdits: they return true whatever they are handed. Conditions: the form's own bounds.
-/
import Derived.Test.YtkhpoeolnhfflaaMergeLive
import Derived.Test.YtkhpoeolnhfflaaMergeRef
set_option linter.unusedSimpArgs false
set_option linter.unusedVariables false
namespace Go.Proofs.Ytkhpoeolnhfflaa
open Go.Shelf Go.RowKit Go.Lib Go.Sort

theorem below_same {w : World} {q : Nat} : Below w.heap.size w (w.drewN q) := below_drewN (Below.refl _ _)
theorem clash1_comm (x y : EditP) : clash1 x y = clash1 y x := by
  rw [Bool.eq_iff_iff]
  unfold clash1
  simp only [Bool.or_eq_true, Bool.and_eq_true, decide_eq_true_eq]
  omega
theorem clashP_comm (a b : List EditP) : clashP a b = clashP b a := by
  rw [Bool.eq_iff_iff]
  unfold clashP
  simp only [List.any_eq_true]
  constructor
  · rintro ⟨x, hx, y, hy, h⟩; exact ⟨y, hy, x, hx, by rw [clash1_comm]; exact h⟩
  · rintro ⟨x, hx, y, hy, h⟩; exact ⟨y, hy, x, hx, by rw [clash1_comm]; exact h⟩

theorem chooseF_len : ∀ (l : List FindP) (i : Nat) (ch : List Int) (tk : List EditP), (chooseF l i ch tk).1.length ≤ ch.length + l.length
  | [], _, _, _ => Nat.le_refl _
  | f :: t, i, ch, tk => by
    rw [chooseF]
    split
    · have := chooseF_len t (i + 1) ch tk; simp only [List.length_cons]; omega
    · have := chooseF_len t (i + 1) (ch ++ [(i : Int)]) (tk ++ f.edits)
      simp only [List.length_cons, List.length_append, List.length_nil] at this ⊢; omega
theorem choose_le (l : List FindP) : (chooseP l).length ≤ l.length := by have := chooseF_len l 0 [] []; simpa [chooseP] using this
theorem choose_len (l : List FindP) (h : l.length ≤ 1000000) : (chooseP l).length ≤ 1000000 := Nat.le_trans (choose_le l) h

namespace mergeChooses
set_option maxHeartbeats 8000000 in
set_option maxRecDepth 100000 in
theorem walk (a : Option Addr) (l : List FindP) (cap : Nat) (hl : l.length * 48 ≤ reachBytes) (hx : ∀ f ∈ l, FindOk f) (w : World) (hI : FindsIn w.heap.size w (.slice a l.length cap) l) :
    Calls Try.prog 3 #[.slice a l.length cap] w fun e w' => e = .returned (.bool true) ∧ Below w.heap.size w w' := by
  have hG := fun (w1 : World) (h : FindsIn w1.heap.size w1 (.slice a l.length cap) l) => greatF_any a cap l hx w1 h
  have HI := Lib.hid hI
  have mixed : Try.prog.follows Departure.mixedOrders = true := rfl
  clear hI hx hl
  cases hg : greatF l
  · rw [hg] at hG
    obtain ⟨g1, g2, g3⟩ := greatF_false hg
    have hCp := fun (w1 : World) (h : FindsIn w1.heap.size w1 (.slice a l.length cap) l) => copyFindings_any a cap l (by omega) (fun f hf => by have := g3 f hf; omega) w1 h
    have hCh := fun (a1 : Option Addr) (c1 : Nat) (w1 : World) (h : FindsIn w1.heap.size w1 (.slice a1 l.length c1) l) => mergeChoose_any a1 c1 l (by omega) (by omega) w1 h
    have hRC := fun (w1 : World) (h : FindsIn w1.heap.size w1 (.slice a l.length cap) l) => refChoose_any a cap l (by omega) (fun f hf => by have := g3 f hf; omega) w1 h
    have hSF := fun (a1 : Option Addr) (c1 : Nat) (w1 : World) (h1 : FindsIn w1.heap.size w1 (.slice a1 l.length c1) l) (h2 : FindsIn w1.heap.size w1 (.slice a l.length cap) l) => sameFindings_any a1 a c1 cap l (by omega) (fun f hf => by have := g3 f hf; omega) w1 h1 h2
    have hlen : (chooseP l).length ≤ 1000000 := choose_len l (by omega)
    clear g1 g2 g3 hg
    generalize chooseP l = ch at *
    go_enter Try.func3, Try.ntmps3
    go_wp2_with fail
    refine (mergeAlive_any _).mono ?_
    rintro e w1 ⟨rfl, b1⟩
    have hI1 := HI.out.later b1
    go_wp2_with fail
    refine (hG w1 hI1).mono ?_
    rintro e w2 ⟨rfl, rfl⟩
    go_wp2_with fail
    refine (hCp w2 hI1).mono ?_
    rintro e w3 ⟨⟨a3, c3, rfl, hO3⟩, b3⟩
    have hI3 := hI1.later b3
    have d3 := b1.trans (b3.mono b1.size)
    clear b3 hI1 b1
    go_wp2_with fail
    refine (hCh a3 c3 w3 hO3).mono ?_
    rintro e w4 ⟨⟨a4, c4, rfl, hC4⟩, b4⟩
    have hI4 := hI3.later b4
    have hO4 := hO3.later b4
    have d4 := d3.trans (b4.mono d3.size)
    clear b4 hI3 hO3 d3
    go_wp2_with fail
    refine (hRC w4 hI4).mono ?_
    rintro e w5 ⟨⟨a5, c5, rfl, hC5⟩, b5⟩
    have hI5 := hI4.later b5
    have hO5 := hO4.later b5
    have hC45 := hC4.later b5
    have d5 := d4.trans (b5.mono d4.size)
    clear b5 hI4 hO4 hC4 d4
    go_wp2_with fail
    refine (sameInts_any a4 a5 c4 c5 ch hlen w5 hC45 hC5).mono ?_
    rintro e w6 ⟨rfl, q6, rfl⟩
    have hI6 := hI5.later (below_same (q := q6))
    have hO6 := hO5.later (below_same (q := q6))
    clear hI5 hO5 hC45 hC5
    go_wp2_with fail
    refine (hSF a3 c3 _ hO6 hI6).mono ?_
    rintro e w7 ⟨rfl, q7, rfl⟩
    go_wp2_with fail
    go_ret
    exact ⟨rfl, by first | exact below_drewN d5 | exact below_drewN (below_drewN d5)⟩
  · rw [hg] at hG
    go_enter Try.func3, Try.ntmps3
    go_wp2_with fail
    refine (mergeAlive_any _).mono ?_
    rintro e w1 ⟨rfl, b1⟩
    go_wp2_with fail
    refine (hG w1 (HI.out.later b1)).mono ?_
    rintro e w2 ⟨rfl, rfl⟩
    go_wp2_with fail
    go_ret
    exact ⟨rfl, b1⟩
end mergeChooses
end Go.Proofs.Ytkhpoeolnhfflaa
