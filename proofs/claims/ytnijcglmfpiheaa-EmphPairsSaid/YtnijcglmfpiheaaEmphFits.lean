/-
  What the search for emphasis holds in memory; fits. Conditions: none.
-/
import Derived.Test.YtnijcglmfpiheaaEmphKey
import Derived.Test.YtnijcglmfpiheaaChecked
import Derived.StillTailTactics
import Derived.Lib.Hide
set_option linter.unusedSimpArgs false
set_option linter.unusedVariables false
namespace Go.Proofs.Ytnijcglmfpiheaa
open Go.RowKit Go.Lib

def rowC (r : RunP) (left : Int) (i : Nat) : Array Value := #[.int .u8 r.mark, .int .i64 r.n, .bool r.op, .bool r.cl, .int .i64 left, .int .i64 i]
def ptrC (R : Nat → Nat) (x : Nat) : Value := .pointer (some ⟨R x, 0, none⟩)

/-- What the search holds in memory: m rows, the stack, the pairs, what is remembered of each kind. -/
structure EmW (N : Nat) (ro : Option Nat) (l : List RunP) (m : Nat) (R : Nat → Nat) (S B n : Nat) (s : StP) (w : World) : Prop where
  nS : N ≤ S
  nB : N ≤ B
  nR : ∀ i, i < m → N ≤ R i
  inj : ∀ i j, i < m → j < m → R i = R j → i = j
  row : ∀ i, i < m → w.heap[R i]? = some (.cells (rowC l[i]! s.left[i]! i) 70)
  sol : ∃ vs vp, w.heap[S]? = some (.cells #[vs, .map (some B), vp] 79) ∧ w.ownsRow N 68 1 vs s.stack.length (s.stack.map (ptrC R)) ∧ w.ownsRow N 40 3 vp s.pairs.length (pairCells s.pairs) ∧ (vs.ownBlock = none ∨ vs.ownBlock ≠ ro)
  bot : ∃ D : DataW Unit, w.ownsMap Try.prog 92 (plainElem Try.prog 3) B n D ∧ BotI l s.stack D
/-- What the search leaves: all below N, and each row of addresses. -/
structure KeepP (N : Nat) (w w' : World) : Prop where
  below : Below N w w'
  ptrs : ∀ (i : Nat) (cs : Array Value) (T : TypeId) (fr : Nat × Nat), (T = 68 ∨ T = 42) → w.heap[i]? = some (.cells cs T fr) → w'.heap[i]? = some (.cells cs T fr)
theorem KeepP.refl (N : Nat) (w : World) : KeepP N w w := ⟨Below.refl _ _, fun _ _ _ _ _ h => h⟩
theorem KeepP.trans {N : Nat} {a b c : World} (h : KeepP N a b) (k : KeepP N b c) : KeepP N a c := ⟨h.below.trans k.below, fun i cs T fr hT hi => k.ptrs i cs T fr hT (h.ptrs i cs T fr hT hi)⟩
theorem KeepP.of_below {N : Nat} {w w' : World} (h : Below w.heap.size w w') (hN : N ≤ w.heap.size) : KeepP N w w' :=
  ⟨h.mono hN, fun i cs T fr _ hi => (h.block i (Array.getElem?_eq_some_iff.1 hi).1).trans hi⟩

theorem EmW.lt {N : Nat} {ro : Option Nat} {l : List RunP} {m : Nat} {R : Nat → Nat} {S B n : Nat} {s : StP} {w : World} (h : EmW N ro l m R S B n s w) : S < w.heap.size ∧ B < w.heap.size ∧ ∀ i, i < m → R i < w.heap.size := by
  obtain ⟨vs, vp, h1, -⟩ := h.sol
  obtain ⟨D, h2, -⟩ := h.bot
  exact ⟨(Array.getElem?_eq_some_iff.1 h1).1, h2.lt, fun i hi => (Array.getElem?_eq_some_iff.1 (h.row i hi)).1⟩
/-- New blocks change nothing of it. -/
theorem EmW.later {N : Nat} {ro : Option Nat} {l : List RunP} {m : Nat} {R : Nat → Nat} {S B n : Nat} {s : StP} {w w' : World} (h : EmW N ro l m R S B n s w) (hb : Below w.heap.size w w') : EmW N ro l m R S B n s w' := by
  obtain ⟨lS, lB, lR⟩ := h.lt
  refine ⟨h.nS, h.nB, h.nR, h.inj, fun i hi => (hb.block _ (lR i hi)).trans (h.row i hi), ?_, ?_⟩
  · obtain ⟨vs, vp, h1, h2, h3, h4⟩ := h.sol
    exact ⟨vs, vp, (hb.block _ lS).trans h1, ownsRow_below h2 hb, ownsRow_below h3 hb, h4⟩
  · obtain ⟨D, ⟨es, clock, hes, rest⟩, h2⟩ := h.bot
    exact ⟨D, ⟨es, clock, (hb.block _ lB).trans hes, rest⟩, h2⟩
theorem map_notCells {w : World} {b : Nat} {P : Program} {k : TypeId} {R : Value → Option (DataW Unit × List MemPlace)} {n : Nat} {D : DataW Unit} (h : w.ownsMap P k R b n D) {i : Nat} {cs : Array Value} {T : TypeId} {fr : Nat × Nat} (hi : w.heap[i]? = some (.cells cs T fr)) : i ≠ b := by
  rintro rfl
  obtain ⟨es, clock, hes, -⟩ := h
  rw [hes] at hi
  cases hi
theorem cells_unlike {w : World} {i j : Nat} {cs cs' : Array Value} {T T' : TypeId} {fr fr' : Nat × Nat} (hi : w.heap[i]? = some (.cells cs T fr)) (hj : w.heap[j]? = some (.cells cs' T' fr')) (hT : T ≠ T') : i ≠ j := by
  rintro rfl
  rw [hi] at hj
  simp only [Option.some.injEq, Obj.cells.injEq] at hj
  exact hT hj.2.1
/-- Only the map has turned. -/
theorem EmW.turnB {N : Nat} {ro : Option Nat} {l : List RunP} {m : Nat} {R : Nat → Nat} {S B n n' : Nat} {s : StP} {w w' : World} (h : EmW N ro l m R S B n s w) (hg : w.grownBy w' (some B)) {D : DataW Unit} (hD : w'.ownsMap Try.prog 92 (plainElem Try.prog 3) B n' D) (hBI : BotI l s.stack D) : EmW N ro l m R S B n' s w' ∧ KeepP N w w' := by
  obtain ⟨lS, lB, lR⟩ := h.lt
  obtain ⟨D0, hD0, -⟩ := h.bot
  have keep : ∀ i, i < w.heap.size → i ≠ B → w'.heap[i]? = w.heap[i]? := fun i hi hne => hg.block i hi fun e => hne (Option.some.inj e)
  refine ⟨⟨h.nS, h.nB, h.nR, h.inj, fun i hi => (keep _ (lR i hi) (map_notCells hD0 (h.row i hi))).trans (h.row i hi), ?_, D, hD, hBI⟩, ⟨⟨hg.os, hg.tape, hg.output, hg.size, fun i hi => ?_⟩, fun i cs T fr _ hi => (keep i (Array.getElem?_eq_some_iff.1 hi).1 (map_notCells hD0 hi)).trans hi⟩⟩
  · obtain ⟨vs, vp, h1, h2, h3, h4⟩ := h.sol
    have ho : ∀ {v : Value} {e : TypeId} {sz k : Nat} {xs : List Value}, w.ownsRow N e sz v k xs → w'.ownsRow N e sz v k xs := fun {v e sz k xs} hr => by
      refine hr.kept hg ?_
      cases hv : v.ownBlock with
      | none => exact .inl rfl
      | some g =>
        obtain ⟨c, fz, hc⟩ := ownsRow_typed hr g hv
        exact .inr fun e1 => map_notCells hD0 hc (Option.some.inj e1)
    exact ⟨vs, vp, (keep _ lS (map_notCells hD0 h1)).trans h1, ho h2, ho h3, h4⟩
  · exact keep i (by have := h.nB; omega) (by have := h.nB; omega)

theorem cells_six {w : World} {L : Nat} {a b c d e f : Value} {T : TypeId} (h : w.heap[L]? = some (.cells #[a, b, c, d, e, f] T)) :
    w.cell? ⟨L, 0, none⟩ = some a ∧ w.cell? ⟨L, 1, none⟩ = some b ∧ w.cell? ⟨L, 2, none⟩ = some c ∧ w.cell? ⟨L, 3, none⟩ = some d ∧ w.cell? ⟨L, 4, none⟩ = some e ∧ w.cell? ⟨L, 5, none⟩ = some f ∧ w.frozen? ⟨L, 4, none⟩ = false := by
  simp [World.cell?, World.frozen?, h]

set_option maxRecDepth 100000 in
set_option maxHeartbeats 4000000 in
theorem fits_any (o c : RunP) (a1 b1 a2 b2 : Int) (w : World) : Calls Try.prog 48 #[.agg #[.int .u8 o.mark, .int .i64 o.n, .bool o.op, .bool o.cl, .int .i64 a1, .int .i64 b1], .agg #[.int .u8 c.mark, .int .i64 c.n, .bool c.op, .bool c.cl, .int .i64 a2, .int .i64 b2]] w fun e w' => e = .returned (.bool (fitsP o c)) ∧ Below w.heap.size w w' := by
  have t1 := tmod3 o.n
  have t2 := tmod3 c.n
  have hB : Below w.heap.size w ((w.alloc (.cells #[.int .u8 o.mark, .int .i64 o.n, .bool o.op, .bool o.cl, .int .i64 a1, .int .i64 b1] 70)).alloc (.cells #[.int .u8 c.mark, .int .i64 c.n, .bool c.op, .bool c.cl, .int .i64 a2, .int .i64 b2] 70)) := ((Below.refl _ w).alloc (Nat.le_refl _) _).alloc (by simp) _
  obtain ⟨m1, n1, o1, c1⟩ := o
  obtain ⟨m2, n2, o2, c2⟩ := c
  simp only at *
  by_cases h1 : (n1.tmod 3 + n2.tmod 3).tmod 3 = 0
  · by_cases h2 : n1.tmod 3 = 0
    · have hr : fitsP ⟨m1, n1, o1, c1⟩ ⟨m2, n2, o2, c2⟩ = true := by simp [fitsP, h2]
      rw [hr]
      go_enter Try.func48, Try.ntmps48
      go_wp2
      all_goals (go_ret; exact ⟨rfl, hB⟩)
    · have hr : fitsP ⟨m1, n1, o1, c1⟩ ⟨m2, n2, o2, c2⟩ = (!o2 && !c1) := by simp [fitsP, h1, h2]
      rw [hr]
      cases o2 <;> cases c1 <;>
      · go_enter Try.func48, Try.ntmps48
        go_wp2
        all_goals (go_ret; exact ⟨rfl, hB⟩)
  · have hr : fitsP ⟨m1, n1, o1, c1⟩ ⟨m2, n2, o2, c2⟩ = true := by simp [fitsP, h1]
    rw [hr]
    go_enter Try.func48, Try.ntmps48
    go_wp2
    all_goals (go_ret; exact ⟨rfl, hB⟩)
end Go.Proofs.Ytnijcglmfpiheaa
