/-
  Rows of rows of marks, of pairs, of numbers. Conditions: none.
-/
import Derived.Test.YtnijcglmfpiheaaBase
import Derived.Test.YtnijcglmfpiheaaProg
import Derived.Test.YtnijcglmfpiheaaEmphR
import Derived.Maps.AppendAt
set_option linter.unusedSimpArgs false
set_option linter.unusedVariables false
namespace Go.Proofs.Ytnijcglmfpiheaa
open Go.RowKit Go.Lib

theorem ownsRow_slice {w : World} {base n size : Nat} {e : TypeId} {v : Value} {xs : List Value} (h : w.ownsRow base e size v n xs) : ∃ a cap, v = .slice a n cap ∧ n ≤ cap := by
  rcases h.2 with ⟨rfl, rfl⟩ | ⟨g, cap, cur, rfl, hg, hh, hc, rest⟩
  · exact ⟨none, 0, rfl, Nat.le_refl _⟩
  · exact ⟨_, _, rfl, hc⟩
theorem ownsRow_typed {w : World} {base n size : Nat} {e : TypeId} {v : Value} {xs : List Value} (h : w.ownsRow base e size v n xs) : ∀ k, v.ownBlock = some k → ∃ c fz, w.heap[k]? = some (.cells c e fz) := by
  intro k hk
  rcases h.2 with ⟨rfl, _⟩ | ⟨g, cap, cur, rfl, hg, hh, rest⟩
  · cases hk
  · cases hk; exact ⟨_, _, hh⟩
/-- An own row's first part is one. -/
theorem ownsRow_take {w : World} {base n size g cap : Nat} {e : TypeId} {xs : List Value} (k : Nat) (hk : k ≤ n) (h : w.ownsRow base e size (.slice (some ⟨g, 0, none⟩) n cap) n xs) : w.ownsRow base e size (.slice (some ⟨g, 0, none⟩) k cap) k (xs.take (k * size)) := by
  have hks : k * size ≤ n * size := Nat.mul_le_mul_right _ hk
  refine ⟨by rw [List.length_take, h.1]; omega, .inr ?_⟩
  rcases h.2 with ⟨hv, _⟩ | ⟨g', cap', cur, hv, hg, hh, hc, hm, hs, ht⟩
  · injection hv with hv; cases hv
  · injection hv with h1 h2 h3
    injection h1 with h1
    injection h1 with h1
    subst h1 h3
    refine ⟨g, cap, cur, rfl, hg, hh, by omega, hm, hs, ?_⟩
    rw [← ht, List.take_take, Nat.min_eq_left hks]

/-! Numbers. -/
theorem infoInt : (Try.prog.info? 3).map (fun i => (i.zero, i.size, i.bytes)) = some (some (.int .i64 0), 1, 8) := by kernel_rfl
def intCells (l : List Int) : List Value := l.map fun n => Value.int .i64 n
theorem intCells_length (l : List Int) : (intCells l).length = l.length * 1 := by simp [intCells]
theorem intCells_snoc (l : List Int) (n : Int) : intCells (l ++ [n]) = intCells l ++ [.int .i64 n] := by simp [intCells]
/-- A slice value holds the numbers l, in a block below n. -/
def IntsIn (n : Nat) (w : World) (v : Value) (l : List Int) : Prop :=
  ∃ a cap, v = .slice a l.length cap ∧ (l ≠ [] → ∃ g off, a = some ⟨g, off, none⟩ ∧ g < n ∧ ∀ j (h : j < l.length), w.cell? ⟨g, off + j, none⟩ = some (.int .i64 l[j]))
theorem IntsIn.below {n : Nat} {w w' : World} {v : Value} {l : List Int} (h : IntsIn n w v l) (hb : Below n w w') : IntsIn n w' v l := by
  obtain ⟨a, cap, e, hr⟩ := h
  refine ⟨a, cap, e, fun hne => ?_⟩
  obtain ⟨g, off, ea, hg, hc⟩ := hr hne
  exact ⟨g, off, ea, hg, fun j hj => by rw [hb.cell (p := ⟨g, _, none⟩) hg]; exact hc j hj⟩
theorem IntsIn.mono {n m : Nat} {w : World} {v : Value} {l : List Int} (h : IntsIn n w v l) (hb : n ≤ m) : IntsIn m w v l := by
  obtain ⟨a, cap, e, hr⟩ := h
  refine ⟨a, cap, e, fun hne => ?_⟩
  obtain ⟨g, off, ea, hg, hc⟩ := hr hne
  exact ⟨g, off, ea, by omega, hc⟩
theorem IntsIn.later {w w' : World} {v : Value} {l : List Int} (h : IntsIn w.heap.size w v l) (hb : Below w.heap.size w w') : IntsIn w'.heap.size w' v l := (h.below hb).mono hb.size
theorem IntsIn.at {n : Nat} {w : World} {a : Option Addr} {m cap : Nat} {l : List Int} (h : IntsIn n w (.slice a m cap) l) {k : Nat} (hk : k < l.length) : ∃ g off, a = some ⟨g, off, none⟩ ∧ g < n ∧ m = l.length ∧ ∀ j (h : j < l.length), w.cell? ⟨g, off + j, none⟩ = some (.int .i64 l[j]) := by
  obtain ⟨a', cap', hv, hr⟩ := h
  injection hv with h1 h2 h3
  obtain ⟨g, off, e, hg, hc⟩ := hr (by intro e; subst e; simp at hk)
  exact ⟨g, off, h1.trans e, hg, h2, hc⟩
theorem intsIn_of_owns {w : World} {base : Nat} {v : Value} {l : List Int} (h : w.ownsRow base 3 1 v l.length (intCells l)) : IntsIn w.heap.size w v l := by
  rcases h.2 with ⟨rfl, h0⟩ | ⟨g, cap, cur, rfl, hg, hh, hc, hm, hs, ht⟩
  · obtain rfl := List.length_eq_zero_iff.1 h0
    exact ⟨none, 0, rfl, fun h => absurd rfl h⟩
  · refine ⟨_, _, rfl, fun _ => ⟨g, 0, rfl, (Array.getElem?_eq_some_iff.1 hh).1, fun k hk => ?_⟩⟩
    have hu : (intCells l)[k]? = some (.int .i64 l[k]) := by unfold intCells; rw [List.getElem?_map, List.getElem?_eq_getElem hk]; rfl
    rw [← ht, List.getElem?_take_of_lt (by omega)] at hu
    simp only [World.cell?, hh]
    simpa using hu

/-! Rows of marks. -/
def runC (r : RunP) : List Value := [.int .u8 r.mark, .int .i64 r.n, .bool r.op, .bool r.cl]
def runCells (l : List RunP) : List Value := l.flatMap runC
theorem runCells_length (l : List RunP) : (runCells l).length = l.length * 4 := by
  unfold runCells; induction l with
  | nil => rfl
  | cons x t ih => rw [List.flatMap_cons, List.length_append, ih, List.length_cons]; simp [runC]; omega
theorem runCells_snoc (l : List RunP) (x : RunP) : runCells (l ++ [x]) = runCells l ++ runC x := by simp [runCells]
theorem runCells_get : ∀ (l : List RunP) (j : Nat) (h : j < l.length) (c : Nat), c < 4 → (runCells l)[j * 4 + c]? = (runC l[j])[c]?
  | x :: t, 0, _, c, hc => by
    have ht : runCells (x :: t) = runC x ++ runCells t := by simp [runCells]
    rw [ht, List.getElem?_append_left (by simp [runC]; omega)]; simp
  | x :: t, j + 1, h, c, hc => by
    have ht : runCells (x :: t) = runC x ++ runCells t := by simp [runCells]
    rw [ht, List.getElem?_append_right (by simp [runC]; omega), show (j + 1) * 4 + c - (runC x).length = j * 4 + c by simp [runC]; omega, runCells_get t j (by simpa using h) c hc]
    simp
theorem runCells_one (l : List RunP) : ∀ u ∈ runCells l, u.oneCell' = true := by
  intro u hu
  obtain ⟨r, _, hu⟩ := List.mem_flatMap.1 hu
  simp only [runC, List.mem_cons, List.mem_nil_iff, or_false] at hu
  rcases hu with rfl | rfl | rfl | rfl <;> rfl
/-- A row of marks at a place. -/
structure RunAt (w : World) (g o : Nat) (r : RunP) : Prop where
  mark : w.cell? ⟨g, o, none⟩ = some (.int .u8 r.mark)
  n : w.cell? ⟨g, o + 1, none⟩ = some (.int .i64 r.n)
  op : w.cell? ⟨g, o + 2, none⟩ = some (.bool r.op)
  cl : w.cell? ⟨g, o + 3, none⟩ = some (.bool r.cl)
/-- A slice value holds the rows l, in a block below n. -/
def RunsIn (n : Nat) (w : World) (v : Value) (l : List RunP) : Prop :=
  ∃ a cap, v = .slice a l.length cap ∧ (l ≠ [] → ∃ g off, a = some ⟨g, off, none⟩ ∧ g < n ∧ ∀ j (h : j < l.length), RunAt w g (off + j * 4) l[j])
theorem RunsIn.below {n : Nat} {w w' : World} {v : Value} {l : List RunP} (h : RunsIn n w v l) (hb : Below n w w') : RunsIn n w' v l := by
  obtain ⟨a, cap, e, hr⟩ := h
  refine ⟨a, cap, e, fun hne => ?_⟩
  obtain ⟨g, off, ea, hg, hc⟩ := hr hne
  refine ⟨g, off, ea, hg, fun j hj => ?_⟩
  obtain ⟨h0, h1, h2, h3⟩ := hc j hj
  exact ⟨by rw [hb.cell (p := ⟨g, _, none⟩) hg]; exact h0, by rw [hb.cell (p := ⟨g, _, none⟩) hg]; exact h1, by rw [hb.cell (p := ⟨g, _, none⟩) hg]; exact h2, by rw [hb.cell (p := ⟨g, _, none⟩) hg]; exact h3⟩
theorem RunsIn.mono {n m : Nat} {w : World} {v : Value} {l : List RunP} (h : RunsIn n w v l) (hb : n ≤ m) : RunsIn m w v l := by
  obtain ⟨a, cap, e, hr⟩ := h
  refine ⟨a, cap, e, fun hne => ?_⟩
  obtain ⟨g, off, ea, hg, hc⟩ := hr hne
  exact ⟨g, off, ea, by omega, hc⟩
theorem RunsIn.later {w w' : World} {v : Value} {l : List RunP} (h : RunsIn w.heap.size w v l) (hb : Below w.heap.size w w') : RunsIn w'.heap.size w' v l := (h.below hb).mono hb.size
theorem RunsIn.later0 {w w' : World} {v : Value} {l : List RunP} (h : RunsIn w.heap.size w v l) (hb : Below w.heap.size w w') : RunsIn w.heap.size w' v l := h.below hb
theorem RunsIn.at {n : Nat} {w : World} {a : Option Addr} {m cap : Nat} {l : List RunP} (h : RunsIn n w (.slice a m cap) l) {k : Nat} (hk : k < l.length) : ∃ g off, a = some ⟨g, off, none⟩ ∧ g < n ∧ m = l.length ∧ ∀ j (h : j < l.length), RunAt w g (off + j * 4) l[j] := by
  obtain ⟨a', cap', hv, hr⟩ := h
  injection hv with h1 h2 h3
  obtain ⟨g, off, e, hg, hc⟩ := hr (by intro e; subst e; simp at hk)
  exact ⟨g, off, h1.trans e, hg, h2, hc⟩
theorem runsIn_of_owns {w : World} {base : Nat} {v : Value} {l : List RunP} (h : w.ownsRow base 42 4 v l.length (runCells l)) : RunsIn w.heap.size w v l := by
  rcases h.2 with ⟨rfl, h0⟩ | ⟨g, cap, cur, rfl, hg, hh, hc, hm, hs, ht⟩
  · obtain rfl := List.length_eq_zero_iff.1 h0
    exact ⟨none, 0, rfl, fun h => absurd rfl h⟩
  · refine ⟨_, _, rfl, fun _ => ⟨g, 0, rfl, (Array.getElem?_eq_some_iff.1 hh).1, fun j hj => ?_⟩⟩
    have cellAt : ∀ c, c < 4 → w.cell? ⟨g, 0 + j * 4 + c, none⟩ = (runC l[j])[c]? := fun c hc4 => by
      have h1 := runCells_get l j hj c hc4
      rw [← ht, List.getElem?_take_of_lt (by omega)] at h1
      simp only [World.cell?, hh]
      rw [← h1]; simp
    exact ⟨by simpa [runC] using cellAt 0 (by omega), by simpa [runC] using cellAt 1 (by omega), by simpa [runC] using cellAt 2 (by omega), by simpa [runC] using cellAt 3 (by omega)⟩
theorem runsIn_cells {n : Nat} {w : World} {ad : Addr} {cap : Nat} {l : List RunP} (h : RunsIn n w (.slice (some ad) l.length cap) l) : ∀ j u, (runCells l)[j]? = some u → w.cell? (ad.add j) = some u := by
  intro j u hu
  have hj : j < l.length * 4 := by
    have := (List.getElem?_eq_some_iff.1 hu).1
    rw [runCells_length] at this
    exact this
  have hk : j / 4 < l.length := by omega
  obtain ⟨g, off, e1, hg, -, hc⟩ := h.at hk
  injection e1 with e1
  subst e1
  obtain ⟨h0, h1, h2, h3⟩ := hc (j / 4) hk
  have hjj : j = j / 4 * 4 + j % 4 := by omega
  rw [hjj, runCells_get l _ hk _ (by omega)] at hu
  rw [Addr.add_lit, hjj]
  have hlt : j % 4 < 4 := by omega
  have key : ∀ c, c < 4 → (runC l[j / 4])[c]? = some u → w.cell? ⟨g, off + (j / 4 * 4 + c), none⟩ = some u := by
    intro c hc4 hu
    match c, hc4 with
    | 0, _ => simp [runC] at hu; subst hu; simpa [Nat.add_assoc] using h0
    | 1, _ => simp [runC] at hu; subst hu; simpa [Nat.add_assoc] using h1
    | 2, _ => simp [runC] at hu; subst hu; simpa [Nat.add_assoc] using h2
    | 3, _ => simp [runC] at hu; subst hu; simpa [Nat.add_assoc] using h3
  have := key (j % 4) hlt hu
  rwa [show j / 4 * 4 + j % 4 = j by omega] at this ⊢

/-! Pairs. -/
theorem infoPair : (Try.prog.info? 40).map (fun i => (i.zero, i.size, i.bytes)) = some (some (.agg #[.int .i64 0, .int .i64 0, .int .i64 0]), 3, 24) := by kernel_rfl
theorem infoRun : (Try.prog.info? 42).map (fun i => (i.zero, i.size, i.bytes)) = some (some (.agg #[.int .u8 0, .int .i64 0, .bool false, .bool false]), 4, 24) := by kernel_rfl
def pairC (p : PairP) : List Value := [.int .i64 p.o, .int .i64 p.c, .int .i64 p.n]
def pairCells (l : List PairP) : List Value := l.flatMap pairC
theorem pairCells_snoc (l : List PairP) (x : PairP) : pairCells (l ++ [x]) = pairCells l ++ pairC x := by simp [pairCells]
theorem pairCells_get : ∀ (l : List PairP) (j : Nat) (h : j < l.length) (c : Nat), c < 3 → (pairCells l)[j * 3 + c]? = (pairC l[j])[c]?
  | x :: t, 0, _, c, hc => by
    have ht : pairCells (x :: t) = pairC x ++ pairCells t := by simp [pairCells]
    rw [ht, List.getElem?_append_left (by simp [pairC]; omega)]; simp
  | x :: t, j + 1, h, c, hc => by
    have ht : pairCells (x :: t) = pairC x ++ pairCells t := by simp [pairCells]
    rw [ht, List.getElem?_append_right (by simp [pairC]; omega), show (j + 1) * 3 + c - (pairC x).length = j * 3 + c by simp [pairC]; omega, pairCells_get t j (by simpa using h) c hc]
    simp
structure PairAt (w : World) (g o : Nat) (r : PairP) : Prop where
  o_ : w.cell? ⟨g, o, none⟩ = some (.int .i64 r.o)
  c_ : w.cell? ⟨g, o + 1, none⟩ = some (.int .i64 r.c)
  n_ : w.cell? ⟨g, o + 2, none⟩ = some (.int .i64 r.n)
def PairsIn (n : Nat) (w : World) (v : Value) (l : List PairP) : Prop :=
  ∃ a cap, v = .slice a l.length cap ∧ (l ≠ [] → ∃ g off, a = some ⟨g, off, none⟩ ∧ g < n ∧ ∀ j (h : j < l.length), PairAt w g (off + j * 3) l[j])
theorem PairsIn.below {n : Nat} {w w' : World} {v : Value} {l : List PairP} (h : PairsIn n w v l) (hb : Below n w w') : PairsIn n w' v l := by
  obtain ⟨a, cap, e, hr⟩ := h
  refine ⟨a, cap, e, fun hne => ?_⟩
  obtain ⟨g, off, ea, hg, hc⟩ := hr hne
  refine ⟨g, off, ea, hg, fun j hj => ?_⟩
  obtain ⟨h0, h1, h2⟩ := hc j hj
  exact ⟨by rw [hb.cell (p := ⟨g, _, none⟩) hg]; exact h0, by rw [hb.cell (p := ⟨g, _, none⟩) hg]; exact h1, by rw [hb.cell (p := ⟨g, _, none⟩) hg]; exact h2⟩
theorem PairsIn.mono {n m : Nat} {w : World} {v : Value} {l : List PairP} (h : PairsIn n w v l) (hb : n ≤ m) : PairsIn m w v l := by
  obtain ⟨a, cap, e, hr⟩ := h
  refine ⟨a, cap, e, fun hne => ?_⟩
  obtain ⟨g, off, ea, hg, hc⟩ := hr hne
  exact ⟨g, off, ea, by omega, hc⟩
theorem PairsIn.later {w w' : World} {v : Value} {l : List PairP} (h : PairsIn w.heap.size w v l) (hb : Below w.heap.size w w') : PairsIn w'.heap.size w' v l := (h.below hb).mono hb.size
theorem PairsIn.at {n : Nat} {w : World} {a : Option Addr} {m cap : Nat} {l : List PairP} (h : PairsIn n w (.slice a m cap) l) {k : Nat} (hk : k < l.length) : ∃ g off, a = some ⟨g, off, none⟩ ∧ g < n ∧ m = l.length ∧ ∀ j (h : j < l.length), PairAt w g (off + j * 3) l[j] := by
  obtain ⟨a', cap', hv, hr⟩ := h
  injection hv with h1 h2 h3
  obtain ⟨g, off, e, hg, hc⟩ := hr (by intro e; subst e; simp at hk)
  exact ⟨g, off, h1.trans e, hg, h2, hc⟩
theorem pairsIn_of_owns {w : World} {base : Nat} {v : Value} {l : List PairP} (h : w.ownsRow base 40 3 v l.length (pairCells l)) : PairsIn w.heap.size w v l := by
  rcases h.2 with ⟨rfl, h0⟩ | ⟨g, cap, cur, rfl, hg, hh, hc, hm, hs, ht⟩
  · obtain rfl := List.length_eq_zero_iff.1 h0
    exact ⟨none, 0, rfl, fun h => absurd rfl h⟩
  · refine ⟨_, _, rfl, fun _ => ⟨g, 0, rfl, (Array.getElem?_eq_some_iff.1 hh).1, fun j hj => ?_⟩⟩
    have cellAt : ∀ c, c < 3 → w.cell? ⟨g, 0 + j * 3 + c, none⟩ = (pairC l[j])[c]? := fun c hc4 => by
      have h1 := pairCells_get l j hj c hc4
      rw [← ht, List.getElem?_take_of_lt (by omega)] at h1
      simp only [World.cell?, hh]
      rw [← h1]; simp
    exact ⟨by simpa [pairC] using cellAt 0 (by omega), by simpa [pairC] using cellAt 1 (by omega), by simpa [pairC] using cellAt 2 (by omega)⟩
end Go.Proofs.Ytnijcglmfpiheaa
