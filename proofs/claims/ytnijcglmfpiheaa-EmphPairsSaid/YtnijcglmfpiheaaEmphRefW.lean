/-
  The document's answer for emphasis: fits; what its search holds in memory. Conditions: none.
-/
import Derived.Test.YtnijcglmfpiheaaEmphMarks
set_option linter.unusedSimpArgs false
set_option linter.unusedVariables false
namespace Go.Proofs.Ytnijcglmfpiheaa
open Go.RowKit Go.Lib

set_option maxRecDepth 100000 in
set_option maxHeartbeats 4000000 in
theorem fitsRef_any (o c : RunP) (w : World) : Calls Try.prog 42 #[.agg #[.int .u8 o.mark, .int .i64 o.n, .bool o.op, .bool o.cl], .agg #[.int .u8 c.mark, .int .i64 c.n, .bool c.op, .bool c.cl]] w fun e w' => e = .returned (.bool (fitsR o c)) ∧ Below w.heap.size w w' := by
  have t1 := tmod3 o.n
  have t2 := tmod3 c.n
  have hB : Below w.heap.size w ((w.alloc (.cells #[.int .u8 o.mark, .int .i64 o.n, .bool o.op, .bool o.cl] 42)).alloc (.cells #[.int .u8 c.mark, .int .i64 c.n, .bool c.op, .bool c.cl] 42)) := ((Below.refl _ w).alloc (Nat.le_refl _) _).alloc (by simp) _
  obtain ⟨m1, n1, o1, c1⟩ := o
  obtain ⟨m2, n2, o2, c2⟩ := c
  simp only at *
  by_cases h1 : (n1.tmod 3 + n2.tmod 3).tmod 3 = 0
  · by_cases h2 : n1.tmod 3 = 0
    · by_cases h3 : n2.tmod 3 = 0
      · have hr : fitsR ⟨m1, n1, o1, c1⟩ ⟨m2, n2, o2, c2⟩ = true := by simp [fitsR, h2, h3]
        rw [hr]
        go_enter Try.func42, Try.ntmps42
        go_wp2
        all_goals (go_ret; exact ⟨rfl, hB⟩)
      · exfalso
        rw [h2, Int.zero_add, Int.tmod_tmod_of_dvd n2 (Int.dvd_refl 3)] at h1
        exact h3 h1
    · have hr : fitsR ⟨m1, n1, o1, c1⟩ ⟨m2, n2, o2, c2⟩ = (!o2 && !c1) := by simp [fitsR, h1, h2]
      rw [hr]
      cases o2 <;> cases c1 <;>
      · go_enter Try.func42, Try.ntmps42
        go_wp2
        all_goals (go_ret; exact ⟨rfl, hB⟩)
  · have hr : fitsR ⟨m1, n1, o1, c1⟩ ⟨m2, n2, o2, c2⟩ = true := by simp [fitsR, h1]
    rw [hr]
    go_enter Try.func42, Try.ntmps42
    go_wp2
    all_goals (go_ret; exact ⟨rfl, hB⟩)

theorem ownsRow_unlike {w w' : World} {base n size : Nat} {e T : TypeId} {v : Value} {xs : List Value} {row : Option Nat} (h : w.ownsRow base e size v n xs) (hg : w.grownBy w' row) (hT : e ≠ T) (hr : ∀ k, row = some k → ∃ c fz, w.heap[k]? = some (.cells c T fz)) : w'.ownsRow base e size v n xs := by
  refine h.kept hg ?_
  cases hv : v.ownBlock with
  | none => exact .inl rfl
  | some k =>
    refine .inr fun e' => ?_
    obtain ⟨c, fz, hc⟩ := ownsRow_typed h k hv
    obtain ⟨c2, fz2, hc2⟩ := hr k e'.symm
    exact cells_unlike hc hc2 hT rfl

def boolCells (l : List Bool) : List Value := l.map Value.bool
theorem boolCells_set (l : List Bool) (i : Nat) (v : Bool) : (boolCells l).set i (.bool v) = boolCells (l.set i v) := by
  unfold boolCells
  rw [List.map_set]
theorem boolCells_made (n : Nat) : (madeCells #[.bool false] n).toList = boolCells (List.replicate n false) := by
  rw [toList_madeCells_one]
  simp [boolCells]
theorem intCells_set' (l : List Int) (i : Nat) (v : Int) : (intCells l).set i (.int .i64 v) = intCells (l.set i v) := by
  unfold intCells
  rw [List.map_set]
theorem someRow {w : World} {base n size : Nat} {e : TypeId} {v : Value} {xs : List Value} (hpos : 0 < n) (h : w.ownsRow base e size v n xs) : ∃ g cap, v = .slice (some ⟨g, 0, none⟩) n cap := by
  rcases h.2 with ⟨_, h0⟩ | ⟨g, cap, cur, hv, _⟩
  · omega
  · exact ⟨g, cap, hv⟩

/-- What the document's search holds. -/
structure RefW (N : Nat) (w : World) (P : List PairP) (L : List Int) (D : List Bool) (pv lv dv : Value) (wr : World) : Prop where
  pairs : wr.ownsRow N 40 3 pv P.length (pairCells P)
  left : wr.ownsRow N 3 1 lv L.length (intCells L)
  dead : wr.ownsRow N 4 1 dv D.length (boolCells D)
  below : Below N w wr
theorem RefW.later {N : Nat} {w : World} {P : List PairP} {L : List Int} {D : List Bool} {pv lv dv : Value} {wr w' : World} (h : RefW N w P L D pv lv dv wr) (hb : Below wr.heap.size wr w') (hN : N ≤ wr.heap.size) : RefW N w P L D pv lv dv w' :=
  ⟨ownsRow_below h.pairs hb, ownsRow_below h.left hb, ownsRow_below h.dead hb, h.below.trans (hb.mono hN)⟩
theorem RefW.push {N : Nat} {w : World} {P : List PairP} {p : PairP} {L : List Int} {D : List Bool} {pv lv dv v5 : Value} {wr wX w5 : World} (h : RefW N w P L D pv lv dv wr) (hb : Below wr.heap.size wr wX) (hN : N ≤ wr.heap.size) (h5 : w5.ownsRow N 40 3 v5 (P.length + 1) (pairCells P ++ pairC p)) (hg : wX.grownBy w5 pv.ownBlock) : RefW N w (P ++ [p]) L D v5 lv dv w5 := by
  have hX := h.later hb hN
  have ht := ownsRow_typed hX.pairs
  refine ⟨by rw [List.length_append, pairCells_snoc]; exact h5, ownsRow_unlike hX.left hg (by decide) ht, ownsRow_unlike hX.dead hg (by decide) ht, below_grow hX.below hg (Nat.le_trans hN hb.size) fun g e => ownsRow_base hX.pairs e⟩
theorem RefW.setLeft {N : Nat} {w : World} {P : List PairP} {L : List Int} {D : List Bool} {pv dv : Value} {g cap n : Nat} {wr : World} (h : RefW N w P L D pv (.slice (some ⟨g, 0, none⟩) n cap) dv wr) {i : Nat} (hi : i < L.length) (v : Int) :
    RefW N w P (L.set i v) D pv (.slice (some ⟨g, 0, none⟩) n cap) dv (wr.setCell ⟨g, i, none⟩ (.int .i64 v)) := by
  have hn : n = L.length := by
    obtain ⟨a, c, e, -⟩ := ownsRow_slice h.left
    injection e
  subst hn
  obtain ⟨h1, h2, h3, h4, h5⟩ := ownsRow_set h.left (j := i) (by omega) (.int .i64 v)
  rw [intCells_set'] at h1
  have hs := set_grown wr g i (.int .i64 v)
  have ht := ownsRow_typed h.left
  exact ⟨ownsRow_unlike h.pairs hs (by decide) (fun k e => ht k e), by rw [List.length_set]; exact h1, ownsRow_unlike h.dead hs (by decide) (fun k e => ht k e), below_set h.below h4 _ _⟩
theorem RefW.leftCell {N : Nat} {w : World} {P : List PairP} {L : List Int} {D : List Bool} {pv dv : Value} {g cap n : Nat} {wr : World} (h : RefW N w P L D pv (.slice (some ⟨g, 0, none⟩) n cap) dv wr) {i : Nat} (hi : i < L.length) : wr.cell? ⟨g, i, none⟩ = some (.int .i64 L[i]!) ∧ wr.frozen? ⟨g, i, none⟩ = false := by
  have hn : n = L.length := by
    obtain ⟨a, c, e, -⟩ := ownsRow_slice h.left
    injection e
  subst hn
  obtain ⟨h1, h2, h3, h4, h5⟩ := ownsRow_set h.left (j := i) (by omega) (.int .i64 0)
  refine ⟨?_, h3⟩
  rw [h2, getElem!_pos L i hi]
  unfold intCells
  rw [List.getElem?_map, List.getElem?_eq_getElem hi]
  rfl
theorem RefW.setDead {N : Nat} {w : World} {P : List PairP} {L : List Int} {D : List Bool} {pv lv : Value} {g cap n : Nat} {wr : World} (h : RefW N w P L D pv lv (.slice (some ⟨g, 0, none⟩) n cap) wr) {i : Nat} (hi : i < D.length) (v : Bool) :
    RefW N w P L (D.set i v) pv lv (.slice (some ⟨g, 0, none⟩) n cap) (wr.setCell ⟨g, i, none⟩ (.bool v)) := by
  have hn : n = D.length := by
    obtain ⟨a, c, e, -⟩ := ownsRow_slice h.dead
    injection e
  subst hn
  obtain ⟨h1, h2, h3, h4, h5⟩ := ownsRow_set h.dead (j := i) (by omega) (.bool v)
  rw [boolCells_set] at h1
  have hs := set_grown wr g i (.bool v)
  have ht := ownsRow_typed h.dead
  exact ⟨ownsRow_unlike h.pairs hs (by decide) (fun k e => ht k e), ownsRow_unlike h.left hs (by decide) (fun k e => ht k e), by rw [List.length_set]; exact h1, below_set h.below h4 _ _⟩
theorem RefW.deadCell {N : Nat} {w : World} {P : List PairP} {L : List Int} {D : List Bool} {pv lv : Value} {g cap n : Nat} {wr : World} (h : RefW N w P L D pv lv (.slice (some ⟨g, 0, none⟩) n cap) wr) {i : Nat} (hi : i < D.length) : wr.cell? ⟨g, i, none⟩ = some (.bool D[i]!) ∧ wr.frozen? ⟨g, i, none⟩ = false := by
  have hn : n = D.length := by
    obtain ⟨a, c, e, -⟩ := ownsRow_slice h.dead
    injection e
  subst hn
  obtain ⟨h1, h2, h3, h4, h5⟩ := ownsRow_set h.dead (j := i) (by omega) (.bool false)
  refine ⟨?_, h3⟩
  rw [h2, getElem!_pos D i hi]
  unfold boolCells
  rw [List.getElem?_map, List.getElem?_eq_getElem hi]
  rfl

/-! The document's steps. -/
def clP (l : List RunP) (c : Nat) (t : StP) : StP := if l[c]!.cl then closeP l c t else t
def pushP (l : List RunP) (c : Nat) (t : StP) : StP := if l[c]!.op && decide (0 < t.left[c]!) then { t with stack := t.stack ++ [c] } else t
theorem goP_turn (l : List RunP) (c : Nat) : goP l (c + 1) = pushP l c (clP l c (goP l c)) := rfl
theorem pushP_keeps (l : List RunP) (c : Nat) (t : StP) : (pushP l c t).pairs = t.pairs ∧ (pushP l c t).left = t.left := by unfold pushP; split <;> exact ⟨rfl, rfl⟩
theorem refI_turn {l : List RunP} {c : Nat} {t : StP} {dead : List Bool} (hc : c < l.length) (hg : GoodP l c t) (h : RefI l c t dead) (he : t = clP l c (goP l c)) : (goP l (c + 1)).pairs = t.pairs ∧ (goP l (c + 1)).left = t.left ∧ RefI l (c + 1) (goP l (c + 1)) dead := by
  rw [goP_turn, ← he]
  exact ⟨(pushP_keeps l c t).1, (pushP_keeps l c t).2, ref_push hg h hc⟩
theorem refGoes_none {l : List RunP} {c : Nat} {s : StP} {dead : List Bool} (hg : GoodP l c s) (h : RefI l c s dead) (hc : c ≤ l.length) (hn : ∀ k, k < c → refGoes l c s.left dead k = false) : openP l c s = none := by
  have h1 := ref_find hg h hc
  rw [topP_no hn] at h1
  cases ho : openP l c s with
  | none => rfl
  | some i => rw [ho] at h1; cases h1
theorem refGoes_some {l : List RunP} {c m : Nat} {s : StP} {dead : List Bool} (hg : GoodP l c s) (h : RefI l c s dead) (hc : c ≤ l.length) (hm : m < c) (hgo : refGoes l c s.left dead m = true) (hn : ∀ k, m < k → k < c → refGoes l c s.left dead k = false) : ∃ i, openP l c s = some i ∧ s.stack[i]! = m ∧ i < s.stack.length := by
  have h1 := ref_find hg h hc
  rw [topP_is hm hgo hn] at h1
  cases ho : openP l c s with
  | none => rw [ho] at h1; cases h1
  | some i =>
    rw [ho] at h1
    injection h1 with h1
    exact ⟨i, rfl, h1.symm, (openP_some ho).1⟩
/-- One pair: what comes of it. -/
theorem ref_round {l : List RunP} {c m i : Nat} {s : StP} {dead : List Bool} (hg : GoodP l c s) (h : RefI l c s dead) (hc : c < l.length) (hcl : l[c]!.cl = true) (h0 : 0 < s.left[c]!) (ho : openP l c s = some i) (hm : s.stack[i]! = m) (hi : i < s.stack.length) :
    GoodP l c (pairP c i s) ∧ RefI l c (pairP c i s) (killP m c dead) ∧ clP l c (pairP c i s) = clP l c s ∧ (pairP c i s).left = (s.left.set m (s.left[m]! - takeN s.left[m]! s.left[c]!)).set c (s.left[c]! - takeN s.left[m]! s.left[c]!) ∧ (pairP c i s).pairs = s.pairs ++ [⟨m, c, takeN s.left[m]! s.left[c]!⟩] ∧ (pairP c i s).left[c]! < s.left[c]! ∧ 0 < s.left[m]! ∧ m < c := by
  obtain ⟨g1, g2⟩ := pairP_good hg hc hi h0
  have g3 := ref_pair hg h hc hi h0
  have g4 := closeP_step hg hc h0 ho
  have g5 := hg.open_ _ (nthN_mem hi)
  rw [hm] at g3 g5
  refine ⟨g1, g3, ?_, ?_, ?_, g2, g5.2.2, g5.1⟩
  · unfold clP; rw [if_pos hcl, if_pos hcl]; exact g4.symm
  · subst hm; rfl
  · subst hm; rfl
theorem takeN_is {a b : Int} (ha : 0 < a) (hb : 0 < b) : takeN a b = if 2 ≤ a ∧ 2 ≤ b then 2 else 1 := by
  unfold takeN
  split <;> omega
end Go.Proofs.Ytnijcglmfpiheaa
