/-
  Rows of numbers, of pieces and of nodes: what stands in memory; what append makes of an own row. Conditions: none.
-/
import Derived.Test.YtlebikmiophghaaDoorBase
import Derived.Test.YtlebikmiophghaaDoorProg
import Derived.Test.YtlebikmiophghaaDoorTreeP
import Derived.Deep.SlicePairs
set_option linter.unusedSimpArgs false
set_option linter.unusedVariables false
namespace Go.Proofs.YtlebikmiophghaaDoor
open Go.RowKit Go.Lib

theorem infoInt : (Tryd.prog.info? 3).map (fun i => (i.zero, i.size, i.bytes)) = some (some (.int .i64 0), 1, 8) := by kernel_rfl

def intCells (l : List Int) : List Value := l.map fun n => Value.int .i64 n
theorem intCells_length (l : List Int) : (intCells l).length = l.length * 1 := by simp [intCells]
theorem intCells_snoc (l : List Int) (n : Int) : intCells (l ++ [n]) = intCells l ++ [.int .i64 n] := by simp [intCells]
theorem intCells_one (l : List Int) : ∀ u ∈ intCells l, u.oneCell' = true := by
  intro u hu
  obtain ⟨n, _, rfl⟩ := List.mem_map.1 hu
  rfl
/-- A slice value holds the numbers l, in a block below n. -/
def IntsIn (n : Nat) (w : World) (v : Value) (l : List Int) : Prop :=
  ∃ a cap, v = .slice a l.length cap ∧ (l ≠ [] → ∃ g off, a = some ⟨g, off, none⟩ ∧ g < n ∧ ∀ j (h : j < l.length), w.cell? ⟨g, off + j, none⟩ = some (.int .i64 l[j]))
theorem IntsIn.below {n : Nat} {w w' : World} {v : Value} {l : List Int} (h : IntsIn n w v l) (hb : Below n w w') : IntsIn n w' v l := by
  obtain ⟨a, cap, e, hr⟩ := h
  refine ⟨a, cap, e, fun hne => ?_⟩
  obtain ⟨g, off, ea, hg, hc⟩ := hr hne
  exact ⟨g, off, ea, hg, fun j hj => by rw [hb.cell (p := ⟨g, _, none⟩) hg]; exact hc j hj⟩
theorem IntsIn.mono {n m : Nat} {w : World} {v : Value} {l : List Int} (h : IntsIn n w v l) (hb : n ≤ m) : IntsIn m w v l := by
  obtain ⟨a, cap, e, hr⟩ := h
  refine ⟨a, cap, e, fun hne => ?_⟩
  obtain ⟨g, off, ea, hg, hc⟩ := hr hne
  exact ⟨g, off, ea, by omega, hc⟩
theorem IntsIn.later {w w' : World} {v : Value} {l : List Int} (h : IntsIn w.heap.size w v l) (hb : Below w.heap.size w w') : IntsIn w'.heap.size w' v l := (h.below hb).mono hb.size
theorem IntsIn.at {n : Nat} {w : World} {a : Option Addr} {m cap : Nat} {l : List Int} (h : IntsIn n w (.slice a m cap) l) {k : Nat} (hk : k < l.length) : ∃ g off, a = some ⟨g, off, none⟩ ∧ g < n ∧ m = l.length ∧ ∀ j (h : j < l.length), w.cell? ⟨g, off + j, none⟩ = some (.int .i64 l[j]) := by
  obtain ⟨a', cap', hv, hr⟩ := h
  injection hv with h1 h2 h3
  obtain ⟨g, off, e, hg, hc⟩ := hr (by intro e; subst e; simp at hk)
  exact ⟨g, off, h1.trans e, hg, h2, hc⟩
theorem intsIn_of_owns {w : World} {base : Nat} {v : Value} {l : List Int} (h : w.ownsRow base 3 1 v l.length (intCells l)) : IntsIn w.heap.size w v l := by
  rcases h.2 with ⟨rfl, h0⟩ | ⟨g, cap, cur, rfl, hg, hh, hc, hm, hs, ht⟩
  · obtain rfl := List.length_eq_zero_iff.1 h0
    exact ⟨none, 0, rfl, fun h => absurd rfl h⟩
  · refine ⟨_, _, rfl, fun _ => ⟨g, 0, rfl, (Array.getElem?_eq_some_iff.1 hh).1, fun k hk => ?_⟩⟩
    have hu : (intCells l)[k]? = some (.int .i64 l[k]) := by unfold intCells; rw [List.getElem?_map, List.getElem?_eq_getElem hk]; rfl
    rw [← ht, List.getElem?_take_of_lt (by omega)] at hu
    simp only [World.cell?, hh]
    simpa using hu
theorem intsIn_cells {n : Nat} {w : World} {ad : Addr} {cap : Nat} {l : List Int} (h : IntsIn n w (.slice (some ad) l.length cap) l) : ∀ j u, (intCells l)[j]? = some u → w.cell? (ad.add j) = some u := by
  intro j u hu
  have hj : j < l.length := by
    have := (List.getElem?_eq_some_iff.1 hu).1
    rw [intCells_length] at this
    omega
  obtain ⟨g, off, e1, hg, -, hc⟩ := h.at hj
  injection e1 with e1
  subst e1
  have : (intCells l)[j]? = some (.int .i64 l[j]) := by unfold intCells; rw [List.getElem?_map, List.getElem?_eq_getElem hj]; rfl
  rw [this] at hu
  rw [Addr.add_lit, hc j hj, hu]
theorem IntsIn.take {n : Nat} {w : World} {a : Option Addr} {cap : Nat} {l : List Int} (m cap' : Nat) (hm : m ≤ l.length) (h : IntsIn n w (.slice a l.length cap) l) : IntsIn n w (.slice a m cap') (l.take m) := by
  have hl : (l.take m).length = m := by rw [List.length_take]; omega
  refine ⟨a, cap', by rw [hl], fun hne => ?_⟩
  have h0 : 0 < m := by
    rcases Nat.eq_zero_or_pos m with rfl | h
    · simp at hne
    · exact h
  obtain ⟨g, off, e, hg, -, hc⟩ := h.at (show 0 < l.length by omega)
  exact ⟨g, off, e, hg, fun j hj => by rw [List.getElem_take]; exact hc j (by omega)⟩


/-! Pieces. -/
theorem infoPiece : (Tryd.prog.info? 36).map (fun i => (i.zero, i.size, i.bytes)) = some (some (.agg #[.int .i64 0, .int .i64 0]), 2, 16) := by kernel_rfl
def pieceC (p : PieceP) : List Value := [.int .i64 p.fr, .int .i64 p.to]
def pieceCells (l : List PieceP) : List Value := l.flatMap pieceC
theorem pieceCells_length (l : List PieceP) : (pieceCells l).length = l.length * 2 := by
  unfold pieceCells; induction l with
  | nil => rfl
  | cons x t ih => rw [List.flatMap_cons, List.length_append, ih, List.length_cons]; simp [pieceC]; omega
theorem pieceCells_one (l : List PieceP) : ∀ u ∈ pieceCells l, u.oneCell' = true := by
  intro u hu
  obtain ⟨r, _, hu⟩ := List.mem_flatMap.1 hu
  simp only [pieceC, List.mem_cons, List.mem_nil_iff, or_false] at hu
  rcases hu with rfl | rfl <;> rfl
theorem pieceCells_get : ∀ (l : List PieceP) (j : Nat) (h : j < l.length) (c : Nat), c < 2 → (pieceCells l)[j * 2 + c]? = (pieceC l[j])[c]?
  | x :: t, 0, _, c, hc => by
    have ht : pieceCells (x :: t) = pieceC x ++ pieceCells t := by simp [pieceCells]
    rw [ht, List.getElem?_append_left (by simp [pieceC]; omega)]; simp
  | x :: t, j + 1, h, c, hc => by
    have ht : pieceCells (x :: t) = pieceC x ++ pieceCells t := by simp [pieceCells]
    rw [ht, List.getElem?_append_right (by simp [pieceC]; omega), show (j + 1) * 2 + c - (pieceC x).length = j * 2 + c by simp [pieceC]; omega, pieceCells_get t j (by simpa using h) c hc]
    simp
structure PieceAt (w : World) (g o : Nat) (p : PieceP) : Prop where
  fr : w.cell? ⟨g, o, none⟩ = some (.int .i64 p.fr)
  to : w.cell? ⟨g, o + 1, none⟩ = some (.int .i64 p.to)
/-- A slice value holds the pieces l, in a block below n. -/
def PiecesIn (n : Nat) (w : World) (v : Value) (l : List PieceP) : Prop :=
  ∃ a cap, v = .slice a l.length cap ∧ (l ≠ [] → ∃ g off, a = some ⟨g, off, none⟩ ∧ g < n ∧ ∀ j (h : j < l.length), PieceAt w g (off + j * 2) l[j])
theorem PiecesIn.below {n : Nat} {w w' : World} {v : Value} {l : List PieceP} (h : PiecesIn n w v l) (hb : Below n w w') : PiecesIn n w' v l := by
  obtain ⟨a, cap, e, hr⟩ := h
  refine ⟨a, cap, e, fun hne => ?_⟩
  obtain ⟨g, off, ea, hg, hc⟩ := hr hne
  exact ⟨g, off, ea, hg, fun j hj => ⟨by rw [hb.cell (p := ⟨g, _, none⟩) hg]; exact (hc j hj).fr, by rw [hb.cell (p := ⟨g, _, none⟩) hg]; exact (hc j hj).to⟩⟩
theorem PiecesIn.mono {n m : Nat} {w : World} {v : Value} {l : List PieceP} (h : PiecesIn n w v l) (hb : n ≤ m) : PiecesIn m w v l := by
  obtain ⟨a, cap, e, hr⟩ := h
  refine ⟨a, cap, e, fun hne => ?_⟩
  obtain ⟨g, off, ea, hg, hc⟩ := hr hne
  exact ⟨g, off, ea, by omega, hc⟩
theorem PiecesIn.later {w w' : World} {v : Value} {l : List PieceP} (h : PiecesIn w.heap.size w v l) (hb : Below w.heap.size w w') : PiecesIn w'.heap.size w' v l := (h.below hb).mono hb.size
theorem PiecesIn.at {n : Nat} {w : World} {a : Option Addr} {m cap : Nat} {l : List PieceP} (h : PiecesIn n w (.slice a m cap) l) {k : Nat} (hk : k < l.length) : ∃ g off, a = some ⟨g, off, none⟩ ∧ g < n ∧ m = l.length ∧ ∀ j (h : j < l.length), PieceAt w g (off + j * 2) l[j] := by
  obtain ⟨a', cap', hv, hr⟩ := h
  injection hv with h1 h2 h3
  obtain ⟨g, off, e, hg, hc⟩ := hr (by intro e; subst e; simp at hk)
  exact ⟨g, off, h1.trans e, hg, h2, hc⟩
theorem piecesIn_of_owns {w : World} {base : Nat} {v : Value} {l : List PieceP} (h : w.ownsRow base 36 2 v l.length (pieceCells l)) : PiecesIn w.heap.size w v l := by
  rcases h.2 with ⟨rfl, h0⟩ | ⟨g, cap, cur, rfl, hg, hh, hc, hm, hs, ht⟩
  · obtain rfl := List.length_eq_zero_iff.1 h0
    exact ⟨none, 0, rfl, fun h => absurd rfl h⟩
  · refine ⟨_, _, rfl, fun _ => ⟨g, 0, rfl, (Array.getElem?_eq_some_iff.1 hh).1, fun j hj => ?_⟩⟩
    have cellAt : ∀ c, c < 2 → w.cell? ⟨g, 0 + j * 2 + c, none⟩ = (pieceC l[j])[c]? := fun c hc4 => by
      have h1 := pieceCells_get l j hj c hc4
      rw [← ht, List.getElem?_take_of_lt (by omega)] at h1
      simp only [World.cell?, hh]
      rw [← h1]; simp
    exact ⟨by simpa [pieceC] using cellAt 0 (by omega), by simpa [pieceC] using cellAt 1 (by omega)⟩
theorem piecesIn_cells {n : Nat} {w : World} {ad : Addr} {cap : Nat} {l : List PieceP} (h : PiecesIn n w (.slice (some ad) l.length cap) l) : ∀ j u, (pieceCells l)[j]? = some u → w.cell? (ad.add j) = some u := by
  intro j u hu
  have hj : j < l.length * 2 := by
    have := (List.getElem?_eq_some_iff.1 hu).1
    rw [pieceCells_length] at this
    exact this
  have hk : j / 2 < l.length := by omega
  obtain ⟨g, off, e1, hg, -, hc⟩ := h.at hk
  injection e1 with e1
  subst e1
  obtain ⟨h0, h1⟩ := hc (j / 2) hk
  have hjj : j = j / 2 * 2 + j % 2 := by omega
  rw [hjj, pieceCells_get l _ hk _ (by omega)] at hu
  rw [Addr.add_lit, hjj]
  have hlt : j % 2 < 2 := by omega
  have key : ∀ c, c < 2 → (pieceC l[j / 2])[c]? = some u → w.cell? ⟨g, off + (j / 2 * 2 + c), none⟩ = some u := by
    intro c hc4 hu
    match c, hc4 with
    | 0, _ => simp [pieceC] at hu; subst hu; simpa [Nat.add_assoc] using h0
    | 1, _ => simp [pieceC] at hu; subst hu; simpa [Nat.add_assoc] using h1
  have := key (j % 2) hlt hu
  rwa [show j / 2 * 2 + j % 2 = j by omega] at this ⊢
/-- An own row's block is of its kind. -/
theorem ownsRow_typed {w : World} {base n size : Nat} {e : TypeId} {v : Value} {xs : List Value} (h : w.ownsRow base e size v n xs) : ∀ k, v.ownBlock = some k → ∃ c fz, w.heap[k]? = some (.cells c e fz) := by
  intro k hk
  rcases h.2 with ⟨rfl, _⟩ | ⟨g, cap, cur, rfl, hg, hh, rest⟩
  · cases hk
  · cases hk; exact ⟨_, _, hh⟩
theorem ownsRow_slice {w : World} {base n size : Nat} {e : TypeId} {v : Value} {xs : List Value} (h : w.ownsRow base e size v n xs) : ∃ a cap, v = .slice a n cap ∧ n ≤ cap := by
  rcases h.2 with ⟨rfl, rfl⟩ | ⟨g, cap, cur, rfl, hg, hh, hc, rest⟩
  · exact ⟨none, 0, rfl, Nat.le_refl _⟩
  · exact ⟨_, _, rfl, hc⟩
/-- An own row of one kind is left by what turns another kind's row. -/
theorem ownsRow_unlike {w w' : World} {base n size : Nat} {e T : TypeId} {v : Value} {xs : List Value} {row : Option Nat} (h : w.ownsRow base e size v n xs) (hg : w.grownBy w' row) (hT : e ≠ T) (hr : ∀ k, row = some k → ∃ c fz, w.heap[k]? = some (.cells c T fz)) : w'.ownsRow base e size v n xs := by
  refine h.kept hg ?_
  cases hv : v.ownBlock with
  | none => exact .inl rfl
  | some k =>
    refine .inr fun e' => ?_
    obtain ⟨c, fz, hc⟩ := ownsRow_typed h k hv
    obtain ⟨c2, fz2, hc2⟩ := hr k e'.symm
    rw [hc] at hc2
    simp only [Option.some.injEq, Obj.cells.injEq] at hc2
    exact hT hc2.2.1

/-- append of no row at all. -/
theorem run_append_none {P : Program} (w : World) (t ty e : TypeId) (i : TypeInfo) (ht : P.underlying t = some (.slice e)) (hi : P.info? e = some i) (b : Option Addr) (n cap c : Nat) (h : n ≤ cap) :
    (Builtin.append_ #[t, t] ty #[.slice b n cap, .slice none 0 c]).run P w = .ok (.slice b n cap) w := by
  cases b <;> simp [Builtin.append_, run_underlying ht, sizeOf, typeInfo, hi, Builtin.lenOf, h, Builtin.firstCells, storeCells]


theorem ownsRow_base' {w : World} {base base' n size : Nat} {e : TypeId} {v : Value} {xs : List Value} (h : w.ownsRow base e size v n xs) (hb : base' ≤ base) : w.ownsRow base' e size v n xs := by
  refine ⟨h.1, ?_⟩
  rcases h.2 with hn | ⟨g, cap, cur, hv, hg, rest⟩
  · exact .inl hn
  · exact .inr ⟨g, cap, cur, hv, Nat.le_trans hb hg, rest⟩
/-- append of a row of numbers to an own row of numbers. -/
theorem wpList_append_ints {w : World} {ops : Array Oper} {rest : List Oper} {o : Oper} {a : Act} {Q : Exit → Act → World → Prop} (hgd : o.guard = none) (s x : Operand)
    (ho : o.op = .call { callee := .builtin .append, args := #[s, x], argTypes := #[29, 29] })
    (base : Nat) (v : Value) (L : List Int) (hs : a.eval s = v) (hown : w.ownsRow base 3 1 v L.length (intCells L))
    (b : Option Addr) (l : List Int) (c : Nat) (hx : a.eval x = .slice b l.length c) {m : Nat} (hE : IntsIn m w (.slice b l.length c) l)
    (hL : L.length ≤ 1000000) (hl : l.length ≤ 1000000) (hbase : base ≤ w.heap.size)
    (h : ∀ v' w', w'.ownsRow base 3 1 v' (L ++ l).length (intCells (L ++ l)) → w.grownBy w' v.ownBlock → wpList Tryd.prog ops Q rest (a.put o.dst v') w') : wpList Tryd.prog ops Q (o :: rest) a w := by
  obtain ⟨i0, hi, hz0, hz1, hz2⟩ := info_parts infoInt
  have hcat : intCells (L ++ l) = intCells L ++ intCells l := by simp [intCells]
  rcases b with _ | ad
  · have h0 : l = [] := by
      apply Classical.byContradiction
      intro hne
      obtain ⟨a', cap', hv, hr⟩ := hE
      obtain ⟨g, off, rfl, _⟩ := hr hne
      simp at hv
    subst h0
    obtain ⟨b2, cap2, rfl, hc2⟩ := ownsRow_slice hown
    refine wpList_plain hgd fun K hK => ?_
    have hr := run_append_none w 29 o.type 3 i0 (P := Tryd.prog) Tryd.underlying29 hi b2 L.length cap2 c hc2
    unfold Oper.wp execOp
    simp only [ho, resolve, invoke, builtin, Sem.run_bind, Sem.run_pure, Result.andThen_ok, List.map_toArray, List.map_cons, List.map_nil, hs, hx]
    have e0 : ([] : List Int).length = 0 := rfl
    rw [e0, hr]
    simp only [Result.andThen_ok]
    exact hK _ _ (h _ _ (by rw [List.append_nil]; exact hown) ⟨rfl, rfl, rfl, Nat.le_refl _, fun _ _ _ => rfl⟩)
  · refine wpList_append_own _ hgd _ _ _ ho base 3 i0 (.int .i64 0) 1 8 Tryd.underlying29 hi hz0 hz1 hz2 rfl (by decide) _ _ _ hs hown ad l.length c (intCells l) hx (intCells_length l) (intsIn_cells hE) (intCells_one l) (by unfold maxLen; omega) (by omega) hbase ?_
    intro v' w' h1 h2 _
    exact h v' w' (by rw [List.length_append, hcat]; exact h1) h2
/-- append of a row of pieces to an own row of pieces. -/
theorem wpList_append_pieces {w : World} {ops : Array Oper} {rest : List Oper} {o : Oper} {a : Act} {Q : Exit → Act → World → Prop} (hgd : o.guard = none) (s x : Operand)
    (ho : o.op = .call { callee := .builtin .append, args := #[s, x], argTypes := #[31, 31] })
    (base : Nat) (v : Value) (L : List PieceP) (hs : a.eval s = v) (hown : w.ownsRow base 36 2 v L.length (pieceCells L))
    (b : Option Addr) (l : List PieceP) (c : Nat) (hx : a.eval x = .slice b l.length c) {m : Nat} (hE : PiecesIn m w (.slice b l.length c) l)
    (hL : L.length ≤ 1000000) (hl : l.length ≤ 1000000) (hbase : base ≤ w.heap.size)
    (h : ∀ v' w', w'.ownsRow base 36 2 v' (L ++ l).length (pieceCells (L ++ l)) → w.grownBy w' v.ownBlock → wpList Tryd.prog ops Q rest (a.put o.dst v') w') : wpList Tryd.prog ops Q (o :: rest) a w := by
  obtain ⟨i0, hi, hz0, hz1, hz2⟩ := info_parts infoPiece
  have hcat : pieceCells (L ++ l) = pieceCells L ++ pieceCells l := by simp [pieceCells]
  rcases b with _ | ad
  · have h0 : l = [] := by
      apply Classical.byContradiction
      intro hne
      obtain ⟨a', cap', hv, hr⟩ := hE
      obtain ⟨g, off, rfl, _⟩ := hr hne
      simp at hv
    subst h0
    obtain ⟨b2, cap2, rfl, hc2⟩ := ownsRow_slice hown
    refine wpList_plain hgd fun K hK => ?_
    have hr := run_append_none w 31 o.type 36 i0 (P := Tryd.prog) Tryd.underlying31 hi b2 L.length cap2 c hc2
    unfold Oper.wp execOp
    simp only [ho, resolve, invoke, builtin, Sem.run_bind, Sem.run_pure, Result.andThen_ok, List.map_toArray, List.map_cons, List.map_nil, hs, hx]
    have e0 : ([] : List PieceP).length = 0 := rfl
    rw [e0, hr]
    simp only [Result.andThen_ok]
    exact hK _ _ (h _ _ (by rw [List.append_nil]; exact hown) ⟨rfl, rfl, rfl, Nat.le_refl _, fun _ _ _ => rfl⟩)
  · refine wpList_append_own _ hgd _ _ _ ho base 36 i0 (.agg #[.int .i64 0, .int .i64 0]) 2 16 Tryd.underlying31 hi hz0 hz1 hz2 rfl (by decide) _ _ _ hs hown ad l.length c (pieceCells l) hx (pieceCells_length l) (piecesIn_cells hE) (pieceCells_one l) (by unfold maxLen; omega) (by omega) hbase ?_
    intro v' w' h1 h2 _
    exact h v' w' (by rw [List.length_append, hcat]; exact h1) h2
/-- .. of one number, from a new block. -/
theorem intsIn_new (w : World) (n : Int) : IntsIn (w.heap.size + 1) (w.alloc (.cells #[.int .i64 n] 3)) (.slice (some ⟨w.heap.size, 0, none⟩) ([n] : List Int).length 1) [n] := by
  refine ⟨_, _, rfl, fun _ => ⟨_, _, rfl, by omega, fun k hk => ?_⟩⟩
  have : k = 0 := by simp at hk; omega
  subst this
  rw [Nat.zero_add, World.cell?_alloc_new]; rfl

/-! Nodes. -/
theorem infoNode : (Tryd.prog.info? 33).map (fun i => (i.zero, i.size, i.bytes)) = some (some (.agg #[.int .i64 0, .int .i64 0, .int .i64 0, .int .i64 0, .string ⟨#[]⟩, .string ⟨#[]⟩, .string ⟨#[]⟩, .bool false, .slice none 0 0, .slice none 0 0]), 10, 136) := by kernel_rfl
structure NodeAt (n : Nat) (w : World) (g o : Nat) (x : NodeP) : Prop where
  kind : w.cell? ⟨g, o, none⟩ = some (.int .i64 x.kind)
  fr : w.cell? ⟨g, o + 1, none⟩ = some (.int .i64 x.fr)
  to : w.cell? ⟨g, o + 2, none⟩ = some (.int .i64 x.to)
  level : w.cell? ⟨g, o + 3, none⟩ = some (.int .i64 x.level)
  text : w.cell? ⟨g, o + 4, none⟩ = some (.string x.text)
  link : w.cell? ⟨g, o + 5, none⟩ = some (.string x.link)
  title : w.cell? ⟨g, o + 6, none⟩ = some (.string x.title)
  tight : w.cell? ⟨g, o + 7, none⟩ = some (.bool x.tight)
  kids : ∃ a cap, w.cell? ⟨g, o + 8, none⟩ = some (.slice a x.kids.length cap) ∧ IntsIn n w (.slice a x.kids.length cap) x.kids
  pieces : ∃ a cap, w.cell? ⟨g, o + 9, none⟩ = some (.slice a x.pieces.length cap) ∧ PiecesIn n w (.slice a x.pieces.length cap) x.pieces
/-- A slice value holds the nodes l; all that they hold lies below n. -/
def NodesIn (n : Nat) (w : World) (v : Value) (l : List NodeP) : Prop :=
  ∃ a cap, v = .slice a l.length cap ∧ (l ≠ [] → ∃ g off, a = some ⟨g, off, none⟩ ∧ g < n ∧ ∀ j (h : j < l.length), NodeAt n w g (off + j * 10) l[j])
theorem NodeAt.below {n : Nat} {w w' : World} {g o : Nat} {x : NodeP} (h : NodeAt n w g o x) (hg : g < n) (hb : Below n w w') : NodeAt n w' g o x := by
  obtain ⟨h0, h1, h2, h3, h4, h5, h6, h7, ⟨a, c, h8, h9⟩, ⟨b, d, k1, k2⟩⟩ := h
  exact ⟨by rw [hb.cell (p := ⟨g, _, none⟩) hg]; exact h0, by rw [hb.cell (p := ⟨g, _, none⟩) hg]; exact h1, by rw [hb.cell (p := ⟨g, _, none⟩) hg]; exact h2, by rw [hb.cell (p := ⟨g, _, none⟩) hg]; exact h3, by rw [hb.cell (p := ⟨g, _, none⟩) hg]; exact h4, by rw [hb.cell (p := ⟨g, _, none⟩) hg]; exact h5, by rw [hb.cell (p := ⟨g, _, none⟩) hg]; exact h6, by rw [hb.cell (p := ⟨g, _, none⟩) hg]; exact h7,
    ⟨a, c, by rw [hb.cell (p := ⟨g, _, none⟩) hg]; exact h8, h9.below hb⟩, ⟨b, d, by rw [hb.cell (p := ⟨g, _, none⟩) hg]; exact k1, k2.below hb⟩⟩
theorem NodeAt.mono {n m : Nat} {w : World} {g o : Nat} {x : NodeP} (h : NodeAt n w g o x) (hb : n ≤ m) : NodeAt m w g o x := by
  obtain ⟨h0, h1, h2, h3, h4, h5, h6, h7, ⟨a, c, h8, h9⟩, ⟨b, d, k1, k2⟩⟩ := h
  exact ⟨h0, h1, h2, h3, h4, h5, h6, h7, ⟨a, c, h8, h9.mono hb⟩, ⟨b, d, k1, k2.mono hb⟩⟩
theorem NodesIn.below {n : Nat} {w w' : World} {v : Value} {l : List NodeP} (h : NodesIn n w v l) (hb : Below n w w') : NodesIn n w' v l := by
  obtain ⟨a, cap, e, hr⟩ := h
  refine ⟨a, cap, e, fun hne => ?_⟩
  obtain ⟨g, off, ea, hg, hc⟩ := hr hne
  exact ⟨g, off, ea, hg, fun j hj => (hc j hj).below hg hb⟩
theorem NodesIn.mono {n m : Nat} {w : World} {v : Value} {l : List NodeP} (h : NodesIn n w v l) (hb : n ≤ m) : NodesIn m w v l := by
  obtain ⟨a, cap, e, hr⟩ := h
  refine ⟨a, cap, e, fun hne => ?_⟩
  obtain ⟨g, off, ea, hg, hc⟩ := hr hne
  exact ⟨g, off, ea, by omega, fun j hj => (hc j hj).mono hb⟩
theorem NodesIn.later {w w' : World} {v : Value} {l : List NodeP} (h : NodesIn w.heap.size w v l) (hb : Below w.heap.size w w') : NodesIn w'.heap.size w' v l := (h.below hb).mono hb.size
theorem NodesIn.at {n : Nat} {w : World} {a : Option Addr} {m cap : Nat} {l : List NodeP} (h : NodesIn n w (.slice a m cap) l) {k : Nat} (hk : k < l.length) : ∃ g off, a = some ⟨g, off, none⟩ ∧ g < n ∧ m = l.length ∧ ∀ j (h : j < l.length), NodeAt n w g (off + j * 10) l[j] := by
  obtain ⟨a', cap', hv, hr⟩ := h
  injection hv with h1 h2 h3
  obtain ⟨g, off, e, hg, hc⟩ := hr (by intro e; subst e; simp at hk)
  exact ⟨g, off, h1.trans e, hg, h2, hc⟩

/-- A node's cells, over the slices that hold its kids and its pieces. -/
structure NodeV where
  n : NodeP
  kv : Value
  pv : Value
def nodeC (r : NodeV) : List Value := [.int .i64 r.n.kind, .int .i64 r.n.fr, .int .i64 r.n.to, .int .i64 r.n.level, .string r.n.text, .string r.n.link, .string r.n.title, .bool r.n.tight, r.kv, r.pv]
def nodeCells (l : List NodeV) : List Value := l.flatMap nodeC
theorem nodeCells_snoc (l : List NodeV) (x : NodeV) : nodeCells (l ++ [x]) = nodeCells l ++ nodeC x := by simp [nodeCells]
theorem nodeCells_length (l : List NodeV) : (nodeCells l).length = l.length * 10 := by
  unfold nodeCells; induction l with
  | nil => rfl
  | cons x t ih => rw [List.flatMap_cons, List.length_append, ih, List.length_cons]; simp [nodeC]; omega
theorem nodeCells_get : ∀ (l : List NodeV) (j : Nat) (h : j < l.length) (c : Nat), c < 10 → (nodeCells l)[j * 10 + c]? = (nodeC l[j])[c]?
  | x :: t, 0, _, c, hc => by
    have ht : nodeCells (x :: t) = nodeC x ++ nodeCells t := by simp [nodeCells]
    rw [ht, List.getElem?_append_left (by simp [nodeC]; omega)]; simp
  | x :: t, j + 1, h, c, hc => by
    have ht : nodeCells (x :: t) = nodeC x ++ nodeCells t := by simp [nodeCells]
    rw [ht, List.getElem?_append_right (by simp [nodeC]; omega), show (j + 1) * 10 + c - (nodeC x).length = j * 10 + c by simp [nodeC]; omega, nodeCells_get t j (by simpa using h) c hc]
    simp
/-- The own rows of a node's kids and pieces. -/
structure NodeOwn (N : Nat) (w : World) (r : NodeV) : Prop where
  kids : w.ownsRow N 3 1 r.kv r.n.kids.length (intCells r.n.kids)
  pieces : w.ownsRow N 36 2 r.pv r.n.pieces.length (pieceCells r.n.pieces)
theorem NodeOwn.later {N : Nat} {w w' : World} {r : NodeV} (h : NodeOwn N w r) (hb : Below w.heap.size w w') : NodeOwn N w' r := ⟨ownsRow_below h.kids hb, ownsRow_below h.pieces hb⟩
theorem NodeOwn.grown {N : Nat} {w w' : World} {r : NodeV} {row : Option Nat} (h : NodeOwn N w r) (hg : w.grownBy w' row) (hr : ∀ k, row = some k → ∃ c fz, w.heap[k]? = some (.cells c 33 fz)) : NodeOwn N w' r := ⟨ownsRow_unlike h.kids hg (by decide) hr, ownsRow_unlike h.pieces hg (by decide) hr⟩
theorem NodeOwn.mono {N M : Nat} {w : World} {r : NodeV} (h : NodeOwn N w r) (hM : M ≤ N) : NodeOwn M w r := ⟨ownsRow_base' h.kids hM, ownsRow_base' h.pieces hM⟩
/-- What an own row of nodes holds. -/
theorem nodesIn_of_owns {w : World} {base : Nat} {v : Value} {rs : List NodeV} (h : w.ownsRow base 33 10 v rs.length (nodeCells rs)) (hE : ∀ r ∈ rs, IntsIn w.heap.size w r.kv r.n.kids ∧ PiecesIn w.heap.size w r.pv r.n.pieces) : NodesIn w.heap.size w v (rs.map NodeV.n) := by
  rcases h.2 with ⟨rfl, h0⟩ | ⟨g, cap, cur, rfl, hg, hh, hc, hm, hs, ht⟩
  · obtain rfl := List.length_eq_zero_iff.1 h0
    exact ⟨none, 0, rfl, fun h => absurd rfl h⟩
  · refine ⟨_, cap, by rw [List.length_map], fun _ => ⟨g, 0, rfl, (Array.getElem?_eq_some_iff.1 hh).1, fun j hj => ?_⟩⟩
    have hj' : j < rs.length := by simpa using hj
    have cellAt : ∀ c, c < 10 → w.cell? ⟨g, 0 + j * 10 + c, none⟩ = (nodeC rs[j])[c]? := fun c hc4 => by
      have h1 := nodeCells_get rs j hj' c hc4
      rw [← ht, List.getElem?_take_of_lt (by omega)] at h1
      simp only [World.cell?, hh]
      rw [← h1]; simp
    obtain ⟨hI, hP⟩ := hE rs[j] (List.getElem_mem hj')
    obtain ⟨a, ca, hv, -⟩ := id hI
    obtain ⟨b, cb, hu, -⟩ := id hP
    have hf : (rs.map NodeV.n)[j] = rs[j].n := by simp
    rw [hf]
    exact ⟨by simpa [nodeC] using cellAt 0 (by omega), by simpa [nodeC] using cellAt 1 (by omega), by simpa [nodeC] using cellAt 2 (by omega), by simpa [nodeC] using cellAt 3 (by omega), by simpa [nodeC] using cellAt 4 (by omega), by simpa [nodeC] using cellAt 5 (by omega), by simpa [nodeC] using cellAt 6 (by omega), by simpa [nodeC] using cellAt 7 (by omega), ⟨a, ca, by rw [← hv]; simpa [nodeC] using cellAt 8 (by omega), hv ▸ hI⟩, ⟨b, cb, by rw [← hu]; simpa [nodeC] using cellAt 9 (by omega), hu ▸ hP⟩⟩
theorem NodeOwn.ints {N : Nat} {w : World} {r : NodeV} (h : NodeOwn N w r) : IntsIn w.heap.size w r.kv r.n.kids ∧ PiecesIn w.heap.size w r.pv r.n.pieces := ⟨intsIn_of_owns h.kids, piecesIn_of_owns h.pieces⟩
end Go.Proofs.YtlebikmiophghaaDoor
