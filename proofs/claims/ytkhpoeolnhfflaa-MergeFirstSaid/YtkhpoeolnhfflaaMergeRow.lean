/-
  Rows of numbers and of findings; what append makes of a row of edits or of numbers. Conditions: none.
-/
import Derived.Test.YtkhpoeolnhfflaaRefMove
import Derived.Test.YtkhpoeolnhfflaaEditMove
set_option linter.unusedSimpArgs false
set_option linter.unusedVariables false
namespace Go.Proofs.Ytkhpoeolnhfflaa
open Go.Shelf Go.RowKit Go.Lib Go.Sort

theorem infoInt : (Try.prog.info? 3).map (fun i => (i.zero, i.size, i.bytes)) = some (some (.int .i64 0), 1, 8) := by kernel_rfl

def intCells (l : List Int) : List Value := l.map fun n => Value.int .i64 n
theorem intCells_length (l : List Int) : (intCells l).length = l.length * 1 := by simp [intCells]
theorem intCells_snoc (l : List Int) (n : Int) : intCells (l ++ [n]) = intCells l ++ [.int .i64 n] := by simp [intCells]
theorem intCells_one (l : List Int) : ∀ u ∈ intCells l, u.oneCell' = true := by
  intro u hu
  obtain ⟨n, _, rfl⟩ := List.mem_map.1 hu
  rfl
/-- A slice value holds the numbers l, in a block below n. -/
def IntsIn (n : Nat) (w : World) (v : Value) (l : List Int) : Prop :=
  ∃ a cap, v = .slice a l.length cap ∧ (l ≠ [] → ∃ g off, a = some ⟨g, off, none⟩ ∧ g < n ∧ ∀ j (h : j < l.length), w.cell? ⟨g, off + j, none⟩ = some (.int .i64 l[j]))
theorem IntsIn.below {n : Nat} {w w' : World} {v : Value} {l : List Int} (h : IntsIn n w v l) (hb : Below n w w') : IntsIn n w' v l := by
  obtain ⟨a, cap, e, hr⟩ := h
  refine ⟨a, cap, e, fun hne => ?_⟩
  obtain ⟨g, off, ea, hg, hc⟩ := hr hne
  exact ⟨g, off, ea, hg, fun j hj => by rw [hb.cell (p := ⟨g, _, none⟩) hg]; exact hc j hj⟩
theorem IntsIn.mono {n m : Nat} {w : World} {v : Value} {l : List Int} (h : IntsIn n w v l) (hb : n ≤ m) : IntsIn m w v l := by
  obtain ⟨a, cap, e, hr⟩ := h
  refine ⟨a, cap, e, fun hne => ?_⟩
  obtain ⟨g, off, ea, hg, hc⟩ := hr hne
  exact ⟨g, off, ea, by omega, hc⟩
theorem IntsIn.later {w w' : World} {v : Value} {l : List Int} (h : IntsIn w.heap.size w v l) (hb : Below w.heap.size w w') : IntsIn w'.heap.size w' v l := (h.below hb).mono hb.size
theorem IntsIn.at {n : Nat} {w : World} {a : Option Addr} {m cap : Nat} {l : List Int} (h : IntsIn n w (.slice a m cap) l) {k : Nat} (hk : k < l.length) : ∃ g off, a = some ⟨g, off, none⟩ ∧ g < n ∧ m = l.length ∧ ∀ j (h : j < l.length), w.cell? ⟨g, off + j, none⟩ = some (.int .i64 l[j]) := by
  obtain ⟨a', cap', hv, hr⟩ := h
  injection hv with h1 h2 h3
  obtain ⟨g, off, e, hg, hc⟩ := hr (by intro e; subst e; simp at hk)
  exact ⟨g, off, h1.trans e, hg, h2, hc⟩
theorem intsIn_of_owns {w : World} {base : Nat} {v : Value} {l : List Int} (h : w.ownsRow base 3 1 v l.length (intCells l)) : IntsIn w.heap.size w v l := by
  rcases h.2 with ⟨rfl, h0⟩ | ⟨g, cap, cur, rfl, hg, hh, hc, hm, hs, ht⟩
  · obtain rfl := List.length_eq_zero_iff.1 h0
    exact ⟨none, 0, rfl, fun h => absurd rfl h⟩
  · refine ⟨_, _, rfl, fun _ => ⟨g, 0, rfl, (Array.getElem?_eq_some_iff.1 hh).1, fun k hk => ?_⟩⟩
    have hu : (intCells l)[k]? = some (.int .i64 l[k]) := by unfold intCells; rw [List.getElem?_map, List.getElem?_eq_getElem hk]; rfl
    rw [← ht, List.getElem?_take_of_lt (by omega)] at hu
    simp only [World.cell?, hh]
    simpa using hu
theorem intsIn_cells {n : Nat} {w : World} {ad : Addr} {cap : Nat} {l : List Int} (h : IntsIn n w (.slice (some ad) l.length cap) l) : ∀ j u, (intCells l)[j]? = some u → w.cell? (ad.add j) = some u := by
  intro j u hu
  have hj : j < l.length := by
    have := (List.getElem?_eq_some_iff.1 hu).1
    rw [intCells_length] at this
    omega
  obtain ⟨g, off, e1, hg, -, hc⟩ := h.at hj
  injection e1 with e1
  subst e1
  have : (intCells l)[j]? = some (.int .i64 l[j]) := by unfold intCells; rw [List.getElem?_map, List.getElem?_eq_getElem hj]; rfl
  rw [this] at hu
  rw [Addr.add_lit, hc j hj, hu]
theorem IntsIn.take {n : Nat} {w : World} {a : Option Addr} {cap : Nat} {l : List Int} (m cap' : Nat) (hm : m ≤ l.length) (h : IntsIn n w (.slice a l.length cap) l) : IntsIn n w (.slice a m cap') (l.take m) := by
  have hl : (l.take m).length = m := by rw [List.length_take]; omega
  refine ⟨a, cap', by rw [hl], fun hne => ?_⟩
  have h0 : 0 < m := by
    rcases Nat.eq_zero_or_pos m with rfl | h
    · simp at hne
    · exact h
  obtain ⟨g, off, e, hg, -, hc⟩ := h.at (show 0 < l.length by omega)
  exact ⟨g, off, e, hg, fun j hj => by rw [List.getElem_take]; exact hc j (by omega)⟩

/-- A finding. -/
structure FindP where
  rule : Int
  fr : Int
  to : Int
  edits : List EditP
deriving Inhabited

/-- A slice's block, if it has one, is a row of edits. -/
structure EditsT (w : World) (v : Value) (l : List EditP) : Prop where
  held : EditsIn w.heap.size w v l
  typed : ∃ a cap, v = .slice a l.length cap ∧ (l ≠ [] → RowT w a)
structure FindAt (n : Nat) (w : World) (g o : Nat) (f : FindP) : Prop where
  rule : w.cell? ⟨g, o, none⟩ = some (.int .i64 f.rule)
  fr : w.cell? ⟨g, o + 1, none⟩ = some (.int .i64 f.fr)
  to : w.cell? ⟨g, o + 2, none⟩ = some (.int .i64 f.to)
  edits : ∃ a cap, w.cell? ⟨g, o + 3, none⟩ = some (.slice a f.edits.length cap) ∧ EditsIn n w (.slice a f.edits.length cap) f.edits
/-- A slice value holds the findings l; all that they hold lies below n. -/
def FindsIn (n : Nat) (w : World) (v : Value) (l : List FindP) : Prop :=
  ∃ a cap, v = .slice a l.length cap ∧ (l ≠ [] → ∃ g off, a = some ⟨g, off, none⟩ ∧ g < n ∧ ∀ j (h : j < l.length), FindAt n w g (off + j * 4) l[j])
theorem FindAt.below {n : Nat} {w w' : World} {g o : Nat} {f : FindP} (h : FindAt n w g o f) (hg : g < n) (hb : Below n w w') : FindAt n w' g o f := by
  obtain ⟨h0, h1, h2, a, cap, h3, h4⟩ := h
  exact ⟨by rw [hb.cell (p := ⟨g, _, none⟩) hg]; exact h0, by rw [hb.cell (p := ⟨g, _, none⟩) hg]; exact h1, by rw [hb.cell (p := ⟨g, _, none⟩) hg]; exact h2, a, cap, by rw [hb.cell (p := ⟨g, _, none⟩) hg]; exact h3, h4.below hb⟩
theorem FindsIn.below {n : Nat} {w w' : World} {v : Value} {l : List FindP} (h : FindsIn n w v l) (hb : Below n w w') : FindsIn n w' v l := by
  obtain ⟨a, cap, e, hr⟩ := h
  refine ⟨a, cap, e, fun hne => ?_⟩
  obtain ⟨g, off, ea, hg, hc⟩ := hr hne
  exact ⟨g, off, ea, hg, fun j hj => (hc j hj).below hg hb⟩
theorem FindsIn.mono {n m : Nat} {w : World} {v : Value} {l : List FindP} (h : FindsIn n w v l) (hb : n ≤ m) : FindsIn m w v l := by
  obtain ⟨a, cap, e, hr⟩ := h
  refine ⟨a, cap, e, fun hne => ?_⟩
  obtain ⟨g, off, ea, hg, hc⟩ := hr hne
  refine ⟨g, off, ea, by omega, fun j hj => ?_⟩
  obtain ⟨h0, h1, h2, a, cap, h3, h4⟩ := hc j hj
  exact ⟨h0, h1, h2, a, cap, h3, h4.mono hb⟩
theorem FindsIn.later {w w' : World} {v : Value} {l : List FindP} (h : FindsIn w.heap.size w v l) (hb : Below w.heap.size w w') : FindsIn w'.heap.size w' v l := (h.below hb).mono hb.size
theorem FindsIn.at {n : Nat} {w : World} {a : Option Addr} {m cap : Nat} {l : List FindP} (h : FindsIn n w (.slice a m cap) l) {k : Nat} (hk : k < l.length) : ∃ g off, a = some ⟨g, off, none⟩ ∧ g < n ∧ m = l.length ∧ ∀ j (h : j < l.length), FindAt n w g (off + j * 4) l[j] := by
  obtain ⟨a', cap', hv, hr⟩ := h
  injection hv with h1 h2 h3
  obtain ⟨g, off, e, hg, hc⟩ := hr (by intro e; subst e; simp at hk)
  exact ⟨g, off, h1.trans e, hg, h2, hc⟩

/-- A row of edits is left by what turns another kind's row only. -/
theorem EditsT.grown {w w' : World} {v : Value} {l : List EditP} {row : Option Nat} {T : TypeId} (h : EditsT w v l) (hg : w.grownBy w' row) (hT : T ≠ 50) (hr : ∀ k, row = some k → ∃ c fz, w.heap[k]? = some (.cells c T fz)) : EditsT w' v l := by
  obtain ⟨hI, a, cap, rfl, hty⟩ := h
  have hz := hg.size
  have keep : ∀ g, g < w.heap.size → (∃ c fz, w.heap[g]? = some (.cells c 50 fz)) → w'.heap[g]? = w.heap[g]? := fun g hg1 ⟨c, fz, hc⟩ => hg.block g hg1 fun e => by
    obtain ⟨c2, fz2, hc2⟩ := hr g e.symm
    rw [hc] at hc2
    simp only [Option.some.injEq, Obj.cells.injEq] at hc2
    exact hT hc2.2.1.symm
  by_cases hne : l = []
  · subst hne
    exact ⟨⟨a, cap, rfl, fun h => absurd rfl h⟩, a, cap, rfl, fun h => absurd rfl h⟩
  · obtain ⟨a', cap', hv, hrow⟩ := hI
    injection hv with hv1 hv2 hv3
    obtain ⟨g, off, rfl, hgl, hc⟩ := hrow hne
    subst hv1
    have hk := keep g hgl (hty hne _ rfl)
    refine ⟨⟨_, _, rfl, fun _ => ⟨g, off, rfl, by omega, fun j hj => ?_⟩⟩, _, _, rfl, fun _ ad he => ?_⟩
    · obtain ⟨c0, c1, c2⟩ := hc j hj
      simp only [World.cell?] at c0 c1 c2
      exact ⟨by simp only [World.cell?, hk]; exact c0, by simp only [World.cell?, hk]; exact c1, by simp only [World.cell?, hk]; exact c2⟩
    · injection he with he
      subst he
      obtain ⟨c, fz, hc⟩ := hty hne _ rfl
      exact ⟨c, fz, hk.trans hc⟩
theorem EditsT.later {w w' : World} {v : Value} {l : List EditP} (h : EditsT w v l) (hb : Below w.heap.size w w') : EditsT w' v l := by
  obtain ⟨hI, a, cap, rfl, hty⟩ := h
  exact ⟨(hI.below hb).mono hb.size, a, cap, rfl, fun hne => (hty hne).below hb⟩
theorem editsT_of_owns {w : World} {base : Nat} {v : Value} {l : List EditP} (h : w.ownsRow base 50 3 v l.length (editCells l)) : EditsT w v l := by
  obtain ⟨a', cap', rfl, hE⟩ := editsIn_of_owns h
  refine ⟨hE, _, _, rfl, fun _ ad he => ?_⟩
  rcases h.2 with ⟨hv, h0⟩ | ⟨g, cap, cur, hv, hg, hcell, h4, h5, h6, h7⟩
  · injection hv with hv; subst hv; cases he
  · injection hv with hv; subst hv; injection he with he; subst he; exact ⟨_, _, hcell⟩
/-- An own row's block is of its kind. -/
theorem ownsRow_typed {w : World} {base n size : Nat} {e : TypeId} {v : Value} {xs : List Value} (h : w.ownsRow base e size v n xs) : ∀ k, v.ownBlock = some k → ∃ c fz, w.heap[k]? = some (.cells c e fz) := by
  intro k hk
  rcases h.2 with ⟨rfl, _⟩ | ⟨g, cap, cur, rfl, hg, hh, rest⟩
  · cases hk
  · cases hk; exact ⟨_, _, hh⟩
theorem ownsRow_slice {w : World} {base n size : Nat} {e : TypeId} {v : Value} {xs : List Value} (h : w.ownsRow base e size v n xs) : ∃ a cap, v = .slice a n cap ∧ n ≤ cap := by
  rcases h.2 with ⟨rfl, rfl⟩ | ⟨g, cap, cur, rfl, hg, hh, hc, rest⟩
  · exact ⟨none, 0, rfl, Nat.le_refl _⟩
  · exact ⟨_, _, rfl, hc⟩
/-- An own row of one kind is left by what turns another kind's row. -/
theorem ownsRow_unlike {w w' : World} {base n size : Nat} {e T : TypeId} {v : Value} {xs : List Value} {row : Option Nat} (h : w.ownsRow base e size v n xs) (hg : w.grownBy w' row) (hT : e ≠ T) (hr : ∀ k, row = some k → ∃ c fz, w.heap[k]? = some (.cells c T fz)) : w'.ownsRow base e size v n xs := by
  refine h.kept hg ?_
  cases hv : v.ownBlock with
  | none => exact .inl rfl
  | some k =>
    refine .inr fun e' => ?_
    obtain ⟨c, fz, hc⟩ := ownsRow_typed h k hv
    obtain ⟨c2, fz2, hc2⟩ := hr k e'.symm
    rw [hc] at hc2
    simp only [Option.some.injEq, Obj.cells.injEq] at hc2
    exact hT hc2.2.1

/-- append of no row at all. -/
theorem run_append_none {P : Program} (w : World) (t ty e : TypeId) (i : TypeInfo) (ht : P.underlying t = some (.slice e)) (hi : P.info? e = some i) (b : Option Addr) (n cap c : Nat) (h : n ≤ cap) :
    (Builtin.append_ #[t, t] ty #[.slice b n cap, .slice none 0 c]).run P w = .ok (.slice b n cap) w := by
  cases b <;> simp [Builtin.append_, run_underlying ht, sizeOf, typeInfo, hi, Builtin.lenOf, h, Builtin.firstCells, storeCells]

/-- append of a row of edits to an own row of edits. -/
theorem wpList_append_edits {w : World} {ops : Array Oper} {rest : List Oper} {o : Oper} {a : Act} {Q : Exit → Act → World → Prop} (hgd : o.guard = none) (s x : Operand)
    (ho : o.op = .call { callee := .builtin .append, args := #[s, x], argTypes := #[30, 30] })
    (base : Nat) (v : Value) (L : List EditP) (hs : a.eval s = v) (hown : w.ownsRow base 50 3 v L.length (editCells L))
    (b : Option Addr) (l : List EditP) (c : Nat) (hx : a.eval x = .slice b l.length c) {m : Nat} (hE : EditsIn m w (.slice b l.length c) l)
    (hL : L.length ≤ 1000000) (hl : l.length ≤ 1000000) (hbase : base ≤ w.heap.size)
    (h : ∀ v' w', w'.ownsRow base 50 3 v' (L ++ l).length (editCells (L ++ l)) → w.grownBy w' v.ownBlock → wpList Try.prog ops Q rest (a.put o.dst v') w') : wpList Try.prog ops Q (o :: rest) a w := by
  obtain ⟨i0, hi, hz0, hz1, hz2⟩ := info_parts infoEdit
  have hcat : editCells (L ++ l) = editCells L ++ editCells l := by simp [editCells]
  rcases b with _ | ad
  · have h0 : l = [] := by
      apply Classical.byContradiction
      intro hne
      obtain ⟨a', cap', hv, hr⟩ := hE
      obtain ⟨g, off, rfl, _⟩ := hr hne
      simp at hv
    subst h0
    obtain ⟨b2, cap2, rfl, hc2⟩ := ownsRow_slice hown
    refine wpList_plain hgd fun K hK => ?_
    have hr := run_append_none w 30 o.type 50 i0 (P := Try.prog) Try.underlying30 hi b2 L.length cap2 c hc2
    unfold Oper.wp execOp
    simp only [ho, resolve, invoke, builtin, Sem.run_bind, Sem.run_pure, Result.andThen_ok, List.map_toArray, List.map_cons, List.map_nil, hs, hx]
    have e0 : ([] : List EditP).length = 0 := rfl
    rw [e0, hr]
    simp only [Result.andThen_ok]
    exact hK _ _ (h _ _ (by rw [List.append_nil]; exact hown) ⟨rfl, rfl, rfl, Nat.le_refl _, fun _ _ _ => rfl⟩)
  · refine wpList_append_own _ hgd _ _ _ ho base 50 i0 (.agg #[.int .i64 0, .int .i64 0, .string ⟨#[]⟩]) 3 32 Try.underlying30 hi hz0 hz1 hz2 rfl (by decide) _ _ _ hs hown ad l.length c (editCells l) hx (editCells_length l) (editsIn_cells hE) (editCells_one l) (by unfold maxLen; omega) (by omega) hbase ?_
    intro v' w' h1 h2 _
    exact h v' w' (by rw [List.length_append, hcat]; exact h1) h2

/-- append of a row of numbers to an own row of numbers. -/
theorem wpList_append_ints {w : World} {ops : Array Oper} {rest : List Oper} {o : Oper} {a : Act} {Q : Exit → Act → World → Prop} (hgd : o.guard = none) (s x : Operand)
    (ho : o.op = .call { callee := .builtin .append, args := #[s, x], argTypes := #[27, 27] })
    (base : Nat) (v : Value) (L : List Int) (hs : a.eval s = v) (hown : w.ownsRow base 3 1 v L.length (intCells L))
    (b : Option Addr) (l : List Int) (c : Nat) (hx : a.eval x = .slice b l.length c) {m : Nat} (hE : IntsIn m w (.slice b l.length c) l)
    (hL : L.length ≤ 1000000) (hl : l.length ≤ 1000000) (hbase : base ≤ w.heap.size)
    (h : ∀ v' w', w'.ownsRow base 3 1 v' (L ++ l).length (intCells (L ++ l)) → w.grownBy w' v.ownBlock → wpList Try.prog ops Q rest (a.put o.dst v') w') : wpList Try.prog ops Q (o :: rest) a w := by
  obtain ⟨i0, hi, hz0, hz1, hz2⟩ := info_parts infoInt
  have hcat : intCells (L ++ l) = intCells L ++ intCells l := by simp [intCells]
  rcases b with _ | ad
  · have h0 : l = [] := by
      apply Classical.byContradiction
      intro hne
      obtain ⟨a', cap', hv, hr⟩ := hE
      obtain ⟨g, off, rfl, _⟩ := hr hne
      simp at hv
    subst h0
    obtain ⟨b2, cap2, rfl, hc2⟩ := ownsRow_slice hown
    refine wpList_plain hgd fun K hK => ?_
    have hr := run_append_none w 27 o.type 3 i0 (P := Try.prog) Try.underlying27 hi b2 L.length cap2 c hc2
    unfold Oper.wp execOp
    simp only [ho, resolve, invoke, builtin, Sem.run_bind, Sem.run_pure, Result.andThen_ok, List.map_toArray, List.map_cons, List.map_nil, hs, hx]
    have e0 : ([] : List Int).length = 0 := rfl
    rw [e0, hr]
    simp only [Result.andThen_ok]
    exact hK _ _ (h _ _ (by rw [List.append_nil]; exact hown) ⟨rfl, rfl, rfl, Nat.le_refl _, fun _ _ _ => rfl⟩)
  · refine wpList_append_own _ hgd _ _ _ ho base 3 i0 (.int .i64 0) 1 8 Try.underlying27 hi hz0 hz1 hz2 rfl (by decide) _ _ _ hs hown ad l.length c (intCells l) hx (intCells_length l) (intsIn_cells hE) (intCells_one l) (by unfold maxLen; omega) (by omega) hbase ?_
    intro v' w' h1 h2 _
    exact h v' w' (by rw [List.length_append, hcat]; exact h1) h2
/-- .. of one number, from a new block. -/
theorem intsIn_new (w : World) (n : Int) : IntsIn (w.heap.size + 1) (w.alloc (.cells #[.int .i64 n] 3)) (.slice (some ⟨w.heap.size, 0, none⟩) ([n] : List Int).length 1) [n] := by
  refine ⟨_, _, rfl, fun _ => ⟨_, _, rfl, by omega, fun k hk => ?_⟩⟩
  have : k = 0 := by simp at hk; omega
  subst this
  rw [Nat.zero_add, World.cell?_alloc_new]; rfl
end Go.Proofs.Ytkhpoeolnhfflaa
