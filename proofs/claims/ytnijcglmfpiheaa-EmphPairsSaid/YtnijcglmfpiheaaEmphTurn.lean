/-
  What one pair leaves in memory: the pair is appended, two rows have fewer marks left. Conditions: none.
-/
import Derived.Test.YtnijcglmfpiheaaEmphCut
set_option linter.unusedSimpArgs false
set_option linter.unusedVariables false
namespace Go.Proofs.Ytnijcglmfpiheaa
open Go.RowKit Go.Lib Go.WideMaps

theorem row_through {w w' : World} {r : Option Nat} {N k sz : Nat} {e : TypeId} {v : Value} {xs : List Value} (hr : w.ownsRow N e sz v k xs) (hg : w.grownBy w' r) (hT : ∀ g cs fr, r = some g → w.heap[g]? ≠ some (.cells cs e fr)) : w'.ownsRow N e sz v k xs := by
  refine hr.kept hg ?_
  cases hv : v.ownBlock with
  | none => exact .inl rfl
  | some g =>
    obtain ⟨cs, fz, hc⟩ := ownsRow_typed hr g hv
    exact .inr fun e1 => hT g cs fz e1.symm hc
theorem ownsRow_base {w : World} {base n size g : Nat} {e : TypeId} {v : Value} {xs : List Value} (h : w.ownsRow base e size v n xs) (hv : v.ownBlock = some g) : base ≤ g := by
  rcases h.2 with ⟨rfl, _⟩ | ⟨g', cap, cur, rfl, hg, hh, rest⟩
  · cases hv
  · cases hv; exact hg
theorem unlike_cells {w : World} {i : Nat} {cs cs' : Array Value} {T T' : TypeId} {fr fr' : Nat × Nat} (hi : w.heap[i]? = some (.cells cs T fr)) (hT : T ≠ T') : w.heap[i]? ≠ some (.cells cs' T' fr') := by
  rw [hi]
  intro e
  simp only [Option.some.injEq, Obj.cells.injEq] at e
  exact hT e.2.1

/-- One more pair. -/
theorem EmW.addPair {N : Nat} {ro : Option Nat} {l : List RunP} {m : Nat} {R : Nat → Nat} {S B n : Nat} {s : StP} {w : World} (h : EmW N ro l m R S B n s w) {vs vp v5 : Value} {w1 w5 : World} {p : PairP}
    (hS : w.heap[S]? = some (.cells #[vs, .map (some B), vp] 79)) (hvs : w.ownsRow N 68 1 vs s.stack.length (s.stack.map (ptrC R))) (hvp : w.ownsRow N 40 3 vp s.pairs.length (pairCells s.pairs)) (hro : vs.ownBlock = none ∨ vs.ownBlock ≠ ro)
    (hb : Below w.heap.size w w1) (h5 : w5.ownsRow N 40 3 v5 (s.pairs.length + 1) (pairCells s.pairs ++ pairC p)) (hg : w1.grownBy w5 vp.ownBlock) :
    (EmW N ro l m R S B n { s with pairs := s.pairs ++ [p] } (w5.setCell ⟨S, 2, none⟩ v5) ∧ KeepP N w (w5.setCell ⟨S, 2, none⟩ v5)) ∧ w5.heap[S]? = some (.cells #[vs, .map (some B), vp] 79) := by
  obtain ⟨lS, lB, lR⟩ := h.lt
  obtain ⟨D0, hD0, hBI⟩ := h.bot
  have hSB : S ≠ B := map_notCells hD0 hS
  have hpT : ∀ g, vp.ownBlock = some g → ∃ cs fr, w.heap[g]? = some (.cells cs 40 fr) := fun g hv => ownsRow_typed hvp g hv
  have hpT1 : ∀ g, vp.ownBlock = some g → ∃ cs fr, w1.heap[g]? = some (.cells cs 40 fr) := fun g hv => by
    obtain ⟨cs, fr, hc⟩ := hpT g hv
    exact ⟨cs, fr, (hb.block _ (Array.getElem?_eq_some_iff.1 hc).1).trans hc⟩
  have keep5 : ∀ i, i < w.heap.size → vp.ownBlock ≠ some i → w5.heap[i]? = w.heap[i]? := fun i hi h1 => (hg.block i (Nat.lt_of_lt_of_le hi hb.size) fun e => h1 e.symm).trans (hb.block i hi)
  have np : ∀ {i cs fr} {T : TypeId}, w.heap[i]? = some (.cells cs T fr) → T ≠ 40 → vp.ownBlock ≠ some i := fun {i cs fr T} hi hT e => by
    obtain ⟨cs', fr', hc⟩ := hpT i e
    exact unlike_cells hc (fun e => hT e.symm) hi
  have npB : vp.ownBlock ≠ some B := fun e => by
    obtain ⟨cs', fr', hc⟩ := hpT B e
    exact map_notCells hD0 hc rfl
  have hS5 : w5.heap[S]? = some (.cells #[vs, .map (some B), vp] 79) := (keep5 S lS (np hS (by decide))).trans hS
  have keep : ∀ i, i < w.heap.size → i ≠ S → vp.ownBlock ≠ some i → (w5.setCell ⟨S, 2, none⟩ v5).heap[i]? = w.heap[i]? := fun i hi h1 h2 => ((set_grown w5 S 2 v5).block i (Nat.lt_of_lt_of_le hi (Nat.le_trans hb.size hg.size)) fun e => h1 (Option.some.inj e)).trans (keep5 i hi h2)
  have hset := set_grown w5 S 2 v5
  refine ⟨⟨⟨h.nS, h.nB, h.nR, h.inj, fun i hi => (keep _ (lR i hi) (cells_unlike (h.row i hi) hS (by decide)) (np (h.row i hi) (by decide))).trans (h.row i hi), ⟨vs, v5, block_set hS5 v5, ?_, ?_, hro⟩, D0, ?_, hBI⟩, ⟨⟨hset.os.trans (hg.os.trans hb.os), hset.tape.trans (hg.tape.trans hb.tape), hset.output.trans (hg.output.trans hb.output), Nat.le_trans hb.size (Nat.le_trans hg.size hset.size), fun i hi => keep i (by have := h.nS; omega) (by have := h.nS; omega) (fun e => by have := ownsRow_base hvp e; omega)⟩, fun i cs T fr hT hi => (keep i (Array.getElem?_eq_some_iff.1 hi).1 (cells_unlike hi hS (by rcases hT with rfl | rfl <;> decide)) (np hi (by rcases hT with rfl | rfl <;> decide))).trans hi⟩⟩, hS5⟩
  · refine row_through (row_through (ownsRow_below hvs hb) hg fun g cs fr e => ?_) hset fun g cs fr e => ?_
    · obtain ⟨cs', fr', hc⟩ := hpT1 g e
      exact unlike_cells hc (by decide)
    · cases e
      exact unlike_cells hS5 (by decide)
  · have : w5.ownsRow N 40 3 v5 (s.pairs ++ [p]).length (pairCells (s.pairs ++ [p])) := by rw [List.length_append, pairCells_snoc]; exact h5
    refine row_through this hset fun g cs fr e => ?_
    cases e
    exact unlike_cells hS5 (by decide)
  · exact ((ownsMap_below hD0 hb).kept hg (fun e => npB e.symm)).kept hset (fun e => hSB (Option.some.inj e).symm)

/-- A row has another number of marks left. -/
theorem EmW.setLeft {N : Nat} {ro : Option Nat} {l : List RunP} {m : Nat} {R : Nat → Nat} {S B n : Nat} {s : StP} {w : World} (h : EmW N ro l m R S B n s w) {x : Nat} (hx : x < m) (hxl : x < s.left.length) (v : Int) :
    EmW N ro l m R S B n { s with left := s.left.set x v } (w.setCell ⟨R x, 4, none⟩ (.int .i64 v)) ∧ KeepP N w (w.setCell ⟨R x, 4, none⟩ (.int .i64 v)) := by
  obtain ⟨lS, lB, lR⟩ := h.lt
  obtain ⟨D0, hD0, hBI⟩ := h.bot
  obtain ⟨vs, vp, hS, hvs, hvp, hro⟩ := h.sol
  have hrx := h.row x hx
  have hset := set_grown w (R x) 4 (.int .i64 v)
  have keep : ∀ i, i < w.heap.size → i ≠ R x → (w.setCell ⟨R x, 4, none⟩ (.int .i64 v)).heap[i]? = w.heap[i]? := fun i hi h1 => hset.block i hi fun e => h1 (Option.some.inj e)
  refine ⟨⟨h.nS, h.nB, h.nR, h.inj, fun i hi => ?_, ⟨vs, vp, (keep S lS (cells_unlike hS hrx (by decide))).trans hS, row_through hvs hset fun g cs fr e => ?_, row_through hvp hset fun g cs fr e => ?_, hro⟩, D0, hD0.kept hset (fun e => map_notCells hD0 hrx (Option.some.inj e).symm), hBI⟩, ⟨⟨rfl, rfl, rfl, hset.size, fun i hi => keep i (by have := h.nS; omega) (by have := h.nR x hx; omega)⟩, fun i cs T fr hT hi => (keep i (Array.getElem?_eq_some_iff.1 hi).1 (cells_unlike hi hrx (by rcases hT with rfl | rfl <;> decide))).trans hi⟩⟩
  · by_cases e : i = x
    · subst e
      rw [block_set hrx]
      simp only [get_set_eq hxl]
      rfl
    · simp only [get_set_ne (Ne.symm e)]
      exact (keep _ (lR i hi) (fun e1 => e (h.inj i x hi hx e1))).trans (h.row i hi)
  · cases e; exact unlike_cells hrx (by decide)
  · cases e; exact unlike_cells hrx (by decide)
theorem EmW.rowCells {N : Nat} {ro : Option Nat} {l : List RunP} {m : Nat} {R : Nat → Nat} {S B n : Nat} {s : StP} {w : World} (h : EmW N ro l m R S B n s w) {x : Nat} (hx : x < m) : w.cell? ⟨R x, 4, none⟩ = some (.int .i64 s.left[x]!) ∧ w.cell? ⟨R x, 5, none⟩ = some (.int .i64 x) ∧ w.frozen? ⟨R x, 4, none⟩ = false := by
  obtain ⟨-, -, -, -, h4, h5, h6⟩ := cells_six (h.row x hx)
  exact ⟨h4, h5, h6⟩

@[go_sem high] theorem run_min_ints3 {P : Program} (w : World) (ts : Array TypeId) (t : TypeId) (k k' k'' : IntKind) (x y z : Int) :
    (Builtin.min_ ts t #[.int k x, .int k' y, .int k'' z]).run P w = .ok (.int k (min (min x y) z)) w := by
  have e : ∀ a b : Int, (if b < a then b else a) = min a b := fun a b => by
    rw [Int.min_def]
    split <;> split <;> omega
  simp [Builtin.min_, Builtin.min2, e]
end Go.Proofs.Ytnijcglmfpiheaa
