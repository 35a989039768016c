/-
  What tree.parents holds in memory. Conditions: none.
-/
import Derived.Test.YtlebikmiophghaaDoorTreeRow
import Derived.Test.YtlebikmiophghaaDoorTreeQ
import Derived.Maps.AppendAt
set_option linter.unusedSimpArgs false
set_option linter.unusedVariables false
namespace Go.Proofs.YtlebikmiophghaaDoor
open Go.RowKit Go.Lib

/-- Two values' rows lie in different blocks. -/
def ApartV (a b : Value) : Prop := ∀ g, a.ownBlock = some g → b.ownBlock ≠ some g
theorem ApartV.symm {a b : Value} (h : ApartV a b) : ApartV b a := fun g h1 h2 => h g h2 h1
theorem ApartV.none_left (b : Value) : ApartV (.slice none 0 0) b := fun g h => by cases h
theorem ownsRow_apart {w w' : World} {base n size : Nat} {e : TypeId} {v : Value} {xs : List Value} {row : Option Nat} (h : w.ownsRow base e size v n xs) (hg : w.grownBy w' row) (ha : ∀ g, row = some g → v.ownBlock ≠ some g) : w'.ownsRow base e size v n xs := by
  refine h.kept hg ?_
  cases hv : v.ownBlock with
  | none => exact .inl rfl
  | some k => exact .inr fun e' => ha k e'.symm hv
theorem grown_set (w : World) (b i : Nat) (v : Value) : w.grownBy (w.setCell ⟨b, i, none⟩ v) (some b) :=
  ⟨rfl, rfl, rfl, by simp, fun k _ hk => Below.heap_setCell _ _ _ _ (fun e => hk (by rw [e]))⟩
theorem cells_set {w : World} {b i : Nat} {cs : Array Value} {T : TypeId} {fr : Nat × Nat} (h : w.heap[b]? = some (.cells cs T fr)) (v : Value) : (w.setCell ⟨b, i, none⟩ v).heap[b]? = some (.cells (cs.setIfInBounds i v) T fr) := by
  simp [World.setCell, Array.getElem?_modify, h]
/-- A store into an own row. -/
theorem ownsRow_set {w : World} {base n size g cap : Nat} {e : TypeId} {xs : List Value} (h : w.ownsRow base e size (.slice (some ⟨g, 0, none⟩) n cap) n xs) {j : Nat} (hj : j < n * size) (u : Value) :
    (w.setCell ⟨g, j, none⟩ u).ownsRow base e size (.slice (some ⟨g, 0, none⟩) n cap) n (xs.set j u) ∧ w.cell? ⟨g, j, none⟩ = xs[j]? ∧ w.frozen? ⟨g, j, none⟩ = false ∧ base ≤ g ∧ g < w.heap.size := by
  rcases id h.2 with ⟨hv, h0⟩ | ⟨g', cap', cur, hv, hg, hh, hc, hm, hs, ht⟩
  · subst h0
    rw [Nat.zero_mul] at hj
    omega
  · injection hv with h1 h2 h3
    injection h1 with h1
    injection h1 with h1
    subst h1 h3
    refine ⟨⟨by rw [List.length_set]; exact h.1, .inr ⟨g, cap, cur.setIfInBounds j u, rfl, hg, cells_set hh u, hc, hm, by rw [Array.size_setIfInBounds]; exact hs, ?_⟩⟩, ?_, by simp [World.frozen?, hh], hg, (Array.getElem?_eq_some_iff.1 hh).1⟩
    · rw [Array.toList_setIfInBounds, List.take_set, ht]
    · rw [← ht, List.getElem?_take_of_lt hj]
      simp only [World.cell?, hh]
      simp
theorem ownsRow_take {w : World} {base n size g cap : Nat} {e : TypeId} {xs : List Value} (k : Nat) (hk : k ≤ n) (h : w.ownsRow base e size (.slice (some ⟨g, 0, none⟩) n cap) n xs) : w.ownsRow base e size (.slice (some ⟨g, 0, none⟩) k cap) k (xs.take (k * size)) := by
  have hks : k * size ≤ n * size := Nat.mul_le_mul_right _ hk
  refine ⟨by rw [List.length_take, h.1]; omega, .inr ?_⟩
  rcases h.2 with ⟨hv, _⟩ | ⟨g', cap', cur, hv, hg, hh, hc, hm, hs, ht⟩
  · injection hv with hv; cases hv
  · injection hv with h1 h2 h3
    injection h1 with h1
    injection h1 with h1
    subst h1 h3
    refine ⟨g, cap, cur, rfl, hg, hh, by omega, hm, hs, ?_⟩
    rw [← ht, List.take_take, Nat.min_eq_left hks]
theorem someRow {w : World} {base n size : Nat} {e : TypeId} {v : Value} {xs : List Value} (hpos : 0 < n) (h : w.ownsRow base e size v n xs) : ∃ g cap, v = .slice (some ⟨g, 0, none⟩) n cap ∧ n ≤ cap := by
  rcases h.2 with ⟨_, h0⟩ | ⟨g, cap, cur, hv, _, _, hc, _⟩
  · omega
  · exact ⟨g, cap, hv, hc⟩
/-- A store into an own row of numbers. -/
theorem ints_set {w : World} {base g cap i n : Nat} {l : List Int} (hn : n = l.length) (hi : i < l.length) (h : w.ownsRow base 3 1 (.slice (some ⟨g, 0, none⟩) n cap) n (intCells l)) (v : Int) :
    (w.setCell ⟨g, i, none⟩ (.int .i64 v)).ownsRow base 3 1 (.slice (some ⟨g, 0, none⟩) n cap) n (intCells (l.set i v)) ∧ w.cell? ⟨g, i, none⟩ = some (.int .i64 l[i]!) ∧ w.frozen? ⟨g, i, none⟩ = false ∧ base ≤ g ∧ g < w.heap.size := by
  obtain ⟨h1, h2, h3, h4, h5⟩ := ownsRow_set h (j := i) (by omega) (.int .i64 v)
  have e : (intCells l).set i (.int .i64 v) = intCells (l.set i v) := by unfold intCells; rw [List.map_set]
  rw [e] at h1
  refine ⟨h1, ?_, h3, h4, h5⟩
  rw [h2, getElem!_pos l i hi]
  unfold intCells
  rw [List.getElem?_map, List.getElem?_eq_getElem hi]
  rfl
theorem ints_take {w : World} {base g cap n k : Nat} {l : List Int} (hk : k ≤ n) (h : w.ownsRow base 3 1 (.slice (some ⟨g, 0, none⟩) n cap) n (intCells l)) : w.ownsRow base 3 1 (.slice (some ⟨g, 0, none⟩) k cap) k (intCells (l.take k)) := by
  have := ownsRow_take k hk h
  rw [Nat.mul_one] at this
  unfold intCells
  rw [List.map_take]
  exact this

/-- What tree.parents holds when the i-th node has its turn. -/
structure ParW (w : World) (bx : Value) (n i : Nat) (up : List Int) (st : List (Nat × Nat)) (vu vo vd : Value) (wr : World) : Prop where
  box : wr.heap[w.heap.size]? = some (.cells #[bx] 24)
  op : wr.ownsRow w.heap.size 3 1 vo (st.length + 1) (intCells (openL st))
  due : wr.ownsRow w.heap.size 3 1 vd st.length (intCells (dueL st))
  ups : wr.ownsRow w.heap.size 3 1 vu n (intCells (up ++ List.replicate (n - i) 0))
  ou : ApartV vo vu
  od : ApartV vo vd
  du : ApartV vd vu
  below : Below w.heap.size w wr
theorem ParW.later {w : World} {bx : Value} {n i : Nat} {up : List Int} {st : List (Nat × Nat)} {vu vo vd : Value} {wr w' : World} (h : ParW w bx n i up st vu vo vd wr) (hb : Below wr.heap.size wr w') : ParW w bx n i up st vu vo vd w' :=
  ⟨(hb.block _ (Array.getElem?_eq_some_iff.1 h.box).1).trans h.box, ownsRow_below h.op hb, ownsRow_below h.due hb, ownsRow_below h.ups hb, h.ou, h.od, h.du, h.below.trans (hb.mono h.below.size)⟩
theorem ParW.draws {w : World} {bx : Value} {n i : Nat} {up : List Int} {st : List (Nat × Nat)} {vu vo vd : Value} {wr : World} (h : ParW w bx n i up st vu vo vd wr) (q : Nat) : ParW w bx n i up st vu vo vd (wr.drewN q) := h.later (below_drewN (Below.refl _ _))
/-- The open nodes' rows. -/
theorem ParW.vo_eq {w : World} {bx : Value} {n i : Nat} {up : List Int} {st : List (Nat × Nat)} {vu vo vd : Value} {wr : World} (h : ParW w bx n i up st vu vo vd wr) : ∃ g c, vo = .slice (some ⟨g, 0, none⟩) (st.length + 1) c ∧ st.length + 1 ≤ c := someRow (Nat.succ_pos _) h.op
theorem ParW.vd_eq {w : World} {bx : Value} {n i : Nat} {up : List Int} {st : List (Nat × Nat)} {vu vo vd : Value} {wr : World} (h : ParW w bx n i up st vu vo vd wr) : ∃ a c, vd = .slice a st.length c ∧ st.length ≤ c := ownsRow_slice h.due
theorem ParW.vd_some {w : World} {bx : Value} {n i : Nat} {up : List Int} {st : List (Nat × Nat)} {vu vo vd : Value} {wr : World} (h : ParW w bx n i up st vu vo vd wr) (h0 : 0 < st.length) : ∃ g c, vd = .slice (some ⟨g, 0, none⟩) st.length c ∧ st.length ≤ c := someRow h0 h.due
theorem ParW.opCell {w : World} {bx : Value} {n i : Nat} {up : List Int} {st : List (Nat × Nat)} {vu vd : Value} {g m c : Nat} {wr : World} (h : ParW w bx n i up st vu (.slice (some ⟨g, 0, none⟩) m c) vd wr) {k : Nat} (hk : k < st.length + 1) : wr.cell? ⟨g, k, none⟩ = some (.int .i64 (openL st)[k]!) := by
  have hm : m = st.length + 1 := by obtain ⟨g', c', e, -⟩ := h.vo_eq; injection e
  subst hm
  exact (ints_set (openL_len st).symm (by rw [openL_len]; exact hk) h.op 0).2.1
theorem ParW.dueCell {w : World} {bx : Value} {n i : Nat} {up : List Int} {st : List (Nat × Nat)} {vu vo : Value} {g m c : Nat} {wr : World} (h : ParW w bx n i up st vu vo (.slice (some ⟨g, 0, none⟩) m c) wr) {k : Nat} (hk : k < st.length) : wr.cell? ⟨g, k, none⟩ = some (.int .i64 (dueL st)[k]!) ∧ wr.frozen? ⟨g, k, none⟩ = false := by
  have hm : m = st.length := by obtain ⟨g', c', e, -⟩ := h.vd_eq; injection e
  subst hm
  have := ints_set (dueL_len st).symm (by rw [dueL_len]; exact hk) h.due 0
  exact ⟨this.2.1, this.2.2.1⟩
/-- The innermost open node is struck. -/
theorem ParW.pop {w : World} {bx : Value} {n i p d : Nat} {up : List Int} {r : List (Nat × Nat)} {vu : Value} {go co gd cd mo md : Nat} {wr : World} (h : ParW w bx n i up ((p, d) :: r) vu (.slice (some ⟨go, 0, none⟩) mo co) (.slice (some ⟨gd, 0, none⟩) md cd) wr) : ParW w bx n i up r vu (.slice (some ⟨go, 0, none⟩) (r.length + 1) co) (.slice (some ⟨gd, 0, none⟩) r.length cd) wr := by
  have hmo : mo = ((p, d) :: r).length + 1 := by obtain ⟨g', c', e, -⟩ := h.vo_eq; injection e
  have hmd : md = ((p, d) :: r).length := by obtain ⟨g', c', e, -⟩ := h.vd_eq; injection e
  subst hmo hmd
  have h1 := ints_take (k := r.length + 1) (by simp) h.op
  have h2 := ints_take (k := r.length) (by simp) h.due
  rw [openL_pop] at h1
  rw [dueL_pop] at h2
  exact ⟨h.box, h1, h2, h.ups, h.ou, h.od, h.du, h.below⟩
theorem box_keeps {w w' : World} {i : Nat} {bx : Value} {row : Option Nat} (h : w.heap[i]? = some (.cells #[bx] 24)) (hg : w.grownBy w' row) (hr : ∀ k, row = some k → ∃ c fz, w.heap[k]? = some (.cells c 3 fz)) : w'.heap[i]? = some (.cells #[bx] 24) := by
  rw [← h]
  refine hg.block i (Array.getElem?_eq_some_iff.1 h).1 fun e => ?_
  obtain ⟨c, fz, hc⟩ := hr i e.symm
  rw [h] at hc
  simp only [Option.some.injEq, Obj.cells.injEq] at hc
  exact absurd hc.2.1 (by decide)
theorem below_store {N : Nat} {a w : World} (h : Below N a w) {g : Nat} (hg : N ≤ g) (i : Nat) (u : Value) : Below N a (w.setCell ⟨g, i, none⟩ u) := h.setCell (p := ⟨g, i, none⟩) hg u
/-- One kid more has come. -/
theorem ParW.bump {w : World} {bx : Value} {n i p d : Nat} {up : List Int} {r : List (Nat × Nat)} {vu vo : Value} {gd cd md : Nat} {wr : World} (h : ParW w bx n i up ((p, d) :: r) vu vo (.slice (some ⟨gd, 0, none⟩) md cd) wr) : ParW w bx n i up ((p, d + 1) :: r) vu vo (.slice (some ⟨gd, 0, none⟩) md cd) (wr.setCell ⟨gd, r.length, none⟩ (.int .i64 ((d : Int) + 1))) := by
  have hmd : md = ((p, d) :: r).length := by obtain ⟨g', c', e, -⟩ := h.vd_eq; injection e
  subst hmd
  obtain ⟨h1, -, -, h4, -⟩ := ints_set (dueL_len _).symm (i := r.length) (by rw [dueL_len]; simp) h.due ((d + 1 : Nat) : Int)
  rw [dueL_bump] at h1
  have hg := grown_set wr gd r.length (.int .i64 ((d + 1 : Nat) : Int))
  have e : ((d + 1 : Nat) : Int) = (d : Int) + 1 := by omega
  rw [e] at h1 hg
  have ht := ownsRow_typed h.due
  exact ⟨box_keeps h.box hg (fun k hk => ht k hk), ownsRow_apart h.op hg (fun g e1 e2 => h.od g e2 e1), h1, ownsRow_apart h.ups hg (fun g e1 e2 => h.du g e1 e2), h.ou, h.od, h.du, below_store h.below h4 _ _⟩
theorem up_set {up : List Int} {n i : Nat} (hi : i < n) (hl : up.length = i) (v : Int) : (up ++ List.replicate (n - i) 0).set i v = (up ++ [v]) ++ List.replicate (n - (i + 1)) 0 := by
  have e : n - i = (n - (i + 1)) + 1 := by omega
  rw [e, List.replicate_succ, List.set_append_right _ _ (by omega), hl, Nat.sub_self, List.set_cons_zero, List.append_assoc]
  rfl
/-- A node's parent is set down. -/
theorem ParW.setUp {w : World} {bx : Value} {n i : Nat} {up : List Int} {st : List (Nat × Nat)} {vo vd : Value} {gu cu mu : Nat} {wr : World} (h : ParW w bx n i up st (.slice (some ⟨gu, 0, none⟩) mu cu) vo vd wr) (hi : i < n) (hl : up.length = i) (v : Int) :
    ParW w bx n (i + 1) (up ++ [v]) st (.slice (some ⟨gu, 0, none⟩) mu cu) vo vd (wr.setCell ⟨gu, i, none⟩ (.int .i64 v)) ∧ (∃ u, wr.cell? ⟨gu, i, none⟩ = some u) ∧ wr.frozen? ⟨gu, i, none⟩ = false := by
  have hmu : mu = n := by
    obtain ⟨a, c, e, -⟩ := ownsRow_slice h.ups
    injection e
  subst hmu
  have hlen : (up ++ List.replicate (mu - i) 0).length = mu := by simp; omega
  obtain ⟨h1, h2, h3, h4, -⟩ := ints_set hlen.symm (i := i) (by omega) h.ups v
  rw [up_set hi hl] at h1
  have hg := grown_set wr gu i (.int .i64 v)
  have ht := ownsRow_typed h.ups
  exact ⟨⟨box_keeps h.box hg (fun k hk => ht k hk), ownsRow_apart h.op hg (fun g e1 e2 => h.ou g e2 e1), ownsRow_apart h.due hg (fun g e1 e2 => h.du g e2 e1), h1, h.ou, h.od, h.du, below_store h.below h4 _ _⟩, ⟨_, h2⟩, h3⟩
/-- A value whose block is an elder one's or a new one. -/
theorem apart_new {w : World} {v v' u : Value} {base n : Nat} {xs : List Value} (h : ApartV v u) (hv : v'.ownBlock = v.ownBlock ∨ v'.ownBlock = some w.heap.size) (hu : w.ownsRow base 3 1 u n xs) : ApartV v' u := fun g h1 h2 => by
  rcases hv with hv | hv
  · exact h g (hv.symm.trans h1) h2
  · have := (ownsRow_lt hu h2).2
    rw [hv] at h1
    injection h1 with h1
    omega
theorem grown_below {N : Nat} {w w1 w2 : World} {r : Option Nat} (h : Below N w w1) (hg : w1.grownBy w2 r) (hN : N ≤ w1.heap.size) (hr : ∀ g, r = some g → N ≤ g) : Below N w w2 :=
  h.grown hg hN hr
/-- .. and when the node has been opened in one of the two rows. -/
structure ParO (w : World) (bx : Value) (n i : Nat) (up : List Int) (st : List (Nat × Nat)) (x : Nat) (vu vo vd : Value) (wr : World) : Prop where
  box : wr.heap[w.heap.size]? = some (.cells #[bx] 24)
  op : wr.ownsRow w.heap.size 3 1 vo (st.length + 1 + 1) (intCells (openL ((x, 0) :: st)))
  due : wr.ownsRow w.heap.size 3 1 vd st.length (intCells (dueL st))
  ups : wr.ownsRow w.heap.size 3 1 vu n (intCells (up ++ List.replicate (n - i) 0))
  ou : ApartV vo vu
  od : ApartV vo vd
  du : ApartV vd vu
  below : Below w.heap.size w wr
theorem ParO.later {w : World} {bx : Value} {n i x : Nat} {up : List Int} {st : List (Nat × Nat)} {vu vo vd : Value} {wr w' : World} (h : ParO w bx n i up st x vu vo vd wr) (hb : Below wr.heap.size wr w') : ParO w bx n i up st x vu vo vd w' :=
  ⟨(hb.block _ (Array.getElem?_eq_some_iff.1 h.box).1).trans h.box, ownsRow_below h.op hb, ownsRow_below h.due hb, ownsRow_below h.ups hb, h.ou, h.od, h.du, h.below.trans (hb.mono h.below.size)⟩
theorem ParW.pushOpen {w : World} {bx : Value} {n i : Nat} {up : List Int} {st : List (Nat × Nat)} {vu vo vd v5 : Value} {wr wX w5 : World} (h0 : ParW w bx n i up st vu vo vd wr) (hb : Below wr.heap.size wr wX) (x : Nat) (h5 : w5.ownsRow w.heap.size 3 1 v5 (st.length + 1 + 1) (intCells (openL st) ++ [.int .i64 x])) (hg : wX.grownBy w5 vo.ownBlock) (hv : v5.ownBlock = vo.ownBlock ∨ v5.ownBlock = some wX.heap.size) : ParO w bx n i up st x vu v5 vd w5 := by
  have h := h0.later hb
  have ht := ownsRow_typed h.op
  refine ⟨box_keeps h.box hg ht, ?_, ownsRow_apart h.due hg (fun g e1 e2 => h.od g e1 e2), ownsRow_apart h.ups hg (fun g e1 e2 => h.ou g e1 e2), apart_new h.ou hv h.ups, apart_new h.od hv h.due, h.du, grown_below h.below hg h.below.size fun g e => (ownsRow_lt h.op e).1⟩
  show w5.ownsRow w.heap.size 3 1 v5 (st.length + 1 + 1) (intCells (openL st ++ [(x : Int)]))
  rw [intCells_snoc]
  exact h5
theorem ParO.pushDue {w : World} {bx : Value} {n i x : Nat} {up : List Int} {st : List (Nat × Nat)} {vu vo vd v5 : Value} {wr wX w5 : World} (h0 : ParO w bx n i up st x vu vo vd wr) (hb : Below wr.heap.size wr wX) (h5 : w5.ownsRow w.heap.size 3 1 v5 (st.length + 1) (intCells (dueL st) ++ [.int .i64 0])) (hg : wX.grownBy w5 vd.ownBlock) (hv : v5.ownBlock = vd.ownBlock ∨ v5.ownBlock = some wX.heap.size) : ParW w bx n i up ((x, 0) :: st) vu vo v5 w5 := by
  have h := h0.later hb
  have ht := ownsRow_typed h.due
  refine ⟨box_keeps h.box hg ht, ownsRow_apart h.op hg (fun g e1 e2 => h.od g e2 e1), ?_, ownsRow_apart h.ups hg (fun g e1 e2 => h.du g e1 e2), h.ou, (apart_new h.od.symm hv h.op).symm, apart_new h.du hv h.ups, grown_below h.below hg h.below.size fun g e => (ownsRow_lt h.due e).1⟩
  show w5.ownsRow w.heap.size 3 1 v5 (st.length + 1) (intCells (dueL st ++ [((0 : Nat) : Int)]))
  rw [intCells_snoc]
  exact h5
end Go.Proofs.YtlebikmiophghaaDoor
