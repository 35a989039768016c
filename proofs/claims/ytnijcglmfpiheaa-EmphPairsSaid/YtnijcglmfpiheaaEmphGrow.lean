/-
  The search grows: one more row, one more address, one more place in the stack; the bounds of what is found. Conditions: none.
-/
import Derived.Test.YtnijcglmfpiheaaEmphClose
set_option linter.unusedSimpArgs false
set_option linter.unusedVariables false
namespace Go.Proofs.Ytnijcglmfpiheaa
open Go.RowKit Go.Lib Go.WideMaps

theorem closeP_pairs {l : List RunP} {c : Nat} {s : StP} (hc : c < l.length) (hg : GoodP l c s) : (closeP l c s).pairs.length + (closeP l c s).left[c]!.toNat ≤ s.pairs.length + s.left[c]!.toNat :=
  closeP_keeps hc (fun t => t.pairs.length + t.left[c]!.toNat ≤ s.pairs.length + s.left[c]!.toNat) (fun t i ht hgt h0 ho => by
    obtain ⟨hi, -, -⟩ := openP_some ho
    obtain ⟨g1, g2⟩ := pairP_good hgt hc hi h0
    have hl : (pairP c i t).pairs.length = t.pairs.length + 1 := by simp [pairP]
    have hz : 0 ≤ (pairP c i t).left[c]! := g1.low _ (nth_mem (by rw [g1.len]; exact hc))
    rw [hl]
    omega) s hg (Nat.le_refl _)
theorem goP_pairs (l : List RunP) : ∀ c, c ≤ l.length → (goP l c).pairs.length ≤ c * 1048576
  | 0, _ => Nat.le_refl _
  | c + 1, h => by
    have ih := goP_pairs l c (by omega)
    have hg := goP_good l c (by omega)
    have hp := closeP_pairs (show c < l.length by omega) hg
    have hle := hg.high _ (nth_mem (show c < (goP l c).left.length by rw [hg.len]; omega))
    have e : (goP l (c + 1)).pairs.length ≤ (goP l c).pairs.length + (goP l c).left[c]!.toNat := by
      show (turnP l c (goP l c)).pairs.length ≤ _
      unfold turnP
      split
      · dsimp only
        split <;> (try dsimp only) <;> omega
      · dsimp only
        split <;> (try dsimp only) <;> omega
    rw [Nat.add_mul]
    omega

variable {N : Nat} {ro : Option Nat} {l : List RunP} {m : Nat} {R : Nat → Nat} {S B n : Nat} {s : StP} {w : World}

/-- One more row. -/
theorem EmW.newRow (h : EmW N ro l m R S B n s w) (hst : ∀ x ∈ s.stack, x < m) {w1 : World} {P8 : Nat} (hb : Below w.heap.size w w1) (hP : w.heap.size ≤ P8) (hrow : w1.heap[P8]? = some (.cells (rowC l[m]! s.left[m]! m) 70)) : EmW N ro l (m + 1) (fun i => if i = m then P8 else R i) S B n s w1 := by
  have h1 := h.later hb
  obtain ⟨lS, lB, lR⟩ := h.lt
  have hmap : s.stack.map (ptrC fun i => if i = m then P8 else R i) = s.stack.map (ptrC R) := List.map_congr_left fun x hx => by
    have := hst x hx
    simp only [ptrC]
    rw [if_neg (by omega)]
  refine ⟨h1.nS, h1.nB, fun i hi => ?_, fun i j hi hj => ?_, fun i hi => ?_, ?_, h1.bot⟩
  · show N ≤ if i = m then P8 else R i
    split
    · have := h.nS; omega
    · exact h1.nR i (by omega)
  · show (if i = m then P8 else R i) = (if j = m then P8 else R j) → i = j
    split <;> split <;> intro e
    · omega
    · have := lR j (by omega); omega
    · have := lR i (by omega); omega
    · exact h1.inj i j (by omega) (by omega) e
  · show w1.heap[if i = m then P8 else R i]? = _
    split
    · rename_i e; rw [e]; exact hrow
    · exact h1.row i (by omega)
  · obtain ⟨vs, vp, e1, e2, e3, e4⟩ := h1.sol
    exact ⟨vs, vp, e1, by rw [hmap]; exact e2, e3, e4⟩
/-- The row of addresses has grown. -/
theorem EmW.rowsOf (h : EmW N ro l m R S B n s w) {r' : Option Nat} {w1 w5 : World} (hb : Below w.heap.size w w1) (hg : w1.grownBy w5 ro) (hT : ∀ g, ro = some g → N ≤ g ∧ ∃ cs fr, w.heap[g]? = some (.cells cs 68 fr)) (hr : r' = ro ∨ r' = some w1.heap.size) : EmW N r' l m R S B n s w5 := by
  obtain ⟨lS, lB, lR⟩ := h.lt
  obtain ⟨D0, hD0, hBI⟩ := h.bot
  obtain ⟨vs, vp, hS, hvs, hvp, hro⟩ := h.sol
  have keep : ∀ i, i < w.heap.size → ro ≠ some i → w5.heap[i]? = w.heap[i]? := fun i hi h1 => (hg.block i (Nat.lt_of_lt_of_le hi hb.size) fun e => h1 e.symm).trans (hb.block i hi)
  have np : ∀ {i cs fr} {T : TypeId}, w.heap[i]? = some (.cells cs T fr) → T ≠ 68 → ro ≠ some i := fun {i cs fr T} hi hT' e => by
    obtain ⟨-, cs', fr', hc⟩ := hT i e
    exact unlike_cells hc (fun e => hT' e.symm) hi
  have npB : ro ≠ some B := fun e => by
    obtain ⟨-, cs', fr', hc⟩ := hT B e
    exact map_notCells hD0 hc rfl
  refine ⟨h.nS, h.nB, h.nR, h.inj, fun i hi => (keep _ (lR i hi) (np (h.row i hi) (by decide))).trans (h.row i hi), ⟨vs, vp, (keep S lS (np hS (by decide))).trans hS, ?_, ?_, ?_⟩, D0, (ownsMap_below hD0 hb).kept hg (fun e => npB e.symm), hBI⟩
  · refine (ownsRow_below hvs hb).kept hg ?_
    rcases hro with h1 | h1
    · exact .inl h1
    · exact .inr h1
  · refine row_through (ownsRow_below hvp hb) hg fun g cs fr e => ?_
    obtain ⟨-, cs', fr', hc⟩ := hT g e
    exact unlike_cells ((hb.block _ (Array.getElem?_eq_some_iff.1 hc).1).trans hc) (by decide)
  · rcases hr with rfl | rfl
    · exact hro
    · cases hv : vs.ownBlock with
      | none => exact .inl rfl
      | some g =>
        obtain ⟨cs, fr, hc⟩ := ownsRow_typed hvs g hv
        have := (Array.getElem?_eq_some_iff.1 hc).1
        have := hb.size
        exact .inr fun e => by have := Option.some.inj e; omega
/-- One more place in the stack. -/
theorem EmW.push (h : EmW N ro l m R S B n s w) {vs vp v5 : Value} {w1 w5 : World} {x : Nat}
    (hS : w.heap[S]? = some (.cells #[vs, .map (some B), vp] 79)) (hvs : w.ownsRow N 68 1 vs s.stack.length (s.stack.map (ptrC R))) (hvp : w.ownsRow N 40 3 vp s.pairs.length (pairCells s.pairs)) (hro : vs.ownBlock = none ∨ vs.ownBlock ≠ ro)
    (hb : Below w.heap.size w w1) (h5 : w5.ownsRow N 68 1 v5 (s.stack.length + 1) (s.stack.map (ptrC R) ++ [ptrC R x])) (hg : w1.grownBy w5 vs.ownBlock) (hv5 : v5.ownBlock = vs.ownBlock ∨ v5.ownBlock = some w1.heap.size) (hrl : ∀ g, ro = some g → g < w.heap.size) :
    EmW N ro l m R S B n { s with stack := s.stack ++ [x] } (w5.setCell ⟨S, 0, none⟩ v5) ∧ Below N w (w5.setCell ⟨S, 0, none⟩ v5) ∧ w5.heap[S]? = some (.cells #[vs, .map (some B), vp] 79) ∧ ∀ vr k xs, vr.ownBlock = ro → w.ownsRow N 68 1 vr k xs → (w5.setCell ⟨S, 0, none⟩ v5).ownsRow N 68 1 vr k xs := by
  obtain ⟨lS, lB, lR⟩ := h.lt
  obtain ⟨D0, hD0, hBI⟩ := h.bot
  have hSB : S ≠ B := map_notCells hD0 hS
  have hpT : ∀ g, vs.ownBlock = some g → ∃ cs fr, w.heap[g]? = some (.cells cs 68 fr) := fun g hv => ownsRow_typed hvs g hv
  have hpT1 : ∀ g, vs.ownBlock = some g → ∃ cs fr, w1.heap[g]? = some (.cells cs 68 fr) := fun g hv => by
    obtain ⟨cs, fr, hc⟩ := hpT g hv
    exact ⟨cs, fr, (hb.block _ (Array.getElem?_eq_some_iff.1 hc).1).trans hc⟩
  have keep5 : ∀ i, i < w.heap.size → vs.ownBlock ≠ some i → w5.heap[i]? = w.heap[i]? := fun i hi h1 => (hg.block i (Nat.lt_of_lt_of_le hi hb.size) fun e => h1 e.symm).trans (hb.block i hi)
  have np : ∀ {i cs fr} {T : TypeId}, w.heap[i]? = some (.cells cs T fr) → T ≠ 68 → vs.ownBlock ≠ some i := fun {i cs fr T} hi hT e => by
    obtain ⟨cs', fr', hc⟩ := hpT i e
    exact unlike_cells hc (fun e => hT e.symm) hi
  have npB : vs.ownBlock ≠ some B := fun e => by
    obtain ⟨cs', fr', hc⟩ := hpT B e
    exact map_notCells hD0 hc rfl
  have hS5 : w5.heap[S]? = some (.cells #[vs, .map (some B), vp] 79) := (keep5 S lS (np hS (by decide))).trans hS
  have keep : ∀ i, i < w.heap.size → i ≠ S → vs.ownBlock ≠ some i → (w5.setCell ⟨S, 0, none⟩ v5).heap[i]? = w.heap[i]? := fun i hi h1 h2 => ((set_grown w5 S 0 v5).block i (Nat.lt_of_lt_of_le hi (Nat.le_trans hb.size hg.size)) fun e => h1 (Option.some.inj e)).trans (keep5 i hi h2)
  have hset := set_grown w5 S 0 v5
  refine ⟨⟨h.nS, h.nB, h.nR, h.inj, fun i hi => (keep _ (lR i hi) (cells_unlike (h.row i hi) hS (by decide)) (np (h.row i hi) (by decide))).trans (h.row i hi), ⟨v5, vp, block_set hS5 v5, ?_, ?_, ?_⟩, D0, ?_, botI_push hBI [x]⟩, ⟨hset.os.trans (hg.os.trans hb.os), hset.tape.trans (hg.tape.trans hb.tape), hset.output.trans (hg.output.trans hb.output), Nat.le_trans hb.size (Nat.le_trans hg.size hset.size), fun i hi => keep i (by have := h.nS; omega) (by have := h.nS; omega) (fun e => by have := ownsRow_base hvs e; omega)⟩, hS5, fun vr k xs hvr hr => ?_⟩
  · have : w5.ownsRow N 68 1 v5 (s.stack ++ [x]).length ((s.stack ++ [x]).map (ptrC R)) := by rw [List.length_append, List.map_append]; exact h5
    refine row_through this hset fun g cs fr e => ?_
    cases e
    exact unlike_cells hS5 (by decide)
  · refine row_through (row_through (ownsRow_below hvp hb) hg fun g cs fr e => ?_) hset fun g cs fr e => ?_
    · obtain ⟨cs', fr', hc⟩ := hpT1 g e
      exact unlike_cells hc (by decide)
    · cases e
      exact unlike_cells hS5 (by decide)
  · rcases hv5 with e | e
    · rw [e]; exact hro
    · rw [e]
      exact .inr fun e1 => by have := hrl _ e1.symm; have := hb.size; omega
  · exact ((ownsMap_below hD0 hb).kept hg (fun e => npB e.symm)).kept hset (fun e => hSB (Option.some.inj e).symm)
  · refine row_through ((ownsRow_below hr hb).kept hg ?_) hset fun g cs fr e => ?_
    · rcases hro with h1 | h1
      · cases hv : vr.ownBlock with
        | none => exact .inl rfl
        | some g => exact .inr (by rw [h1]; simp)
      · exact .inr (by rw [hvr]; exact fun e => h1 e.symm)
    · cases e
      exact unlike_cells hS5 (by decide)
/-- A row of addresses stays what it is. -/
theorem rows_keep {w' : World} {v : Value} {k : Nat} {xs : List Value} (h : w.ownsRow N 68 1 v k xs) (hk : KeepP N w w') : w'.ownsRow N 68 1 v k xs := by
  refine ⟨h.1, ?_⟩
  rcases h.2 with hn | ⟨g, cap, cur, hv, hg, hh, rest⟩
  · exact .inl hn
  · exact .inr ⟨g, cap, cur, hv, hg, hk.ptrs _ _ _ _ (.inl rfl) hh, rest⟩
theorem range_ptr (m P8 : Nat) : (List.range m).map (ptrC R) ++ [.pointer (some ⟨P8, 0, none⟩)] = (List.range (m + 1)).map (ptrC fun i => if i = m then P8 else R i) := by
  rw [List.range_succ, List.map_append]
  congr 1
  · refine List.map_congr_left fun x hx => ?_
    have := List.mem_range.1 hx
    simp only [ptrC]
    rw [if_neg (by omega)]
  · simp [ptrC]
end Go.Proofs.Ytnijcglmfpiheaa
