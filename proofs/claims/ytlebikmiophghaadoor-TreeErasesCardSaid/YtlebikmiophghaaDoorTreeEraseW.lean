/-
  Three stores into one node of an own tree: the node without its places. Conditions: none.
-/
import Derived.Test.YtlebikmiophghaaDoorTreeWrongW
set_option linter.unusedSimpArgs false
set_option linter.unusedVariables false
namespace Go.Proofs.YtlebikmiophghaaDoor
open Go.RowKit Go.Lib

theorem map_set_kv : ∀ (rs : List NodeV) (k : Nat) (h : k < rs.length) (r : NodeV) (_ : r.kv = rs[k].kv), (rs.set k r).map NodeV.kv = rs.map NodeV.kv
  | x :: t, 0, _, r, e => by
    have e' : r.kv = x.kv := e
    simp [e']
  | x :: t, k + 1, h, r, e => by
    have := map_set_kv t k (by simpa using h) r (by simpa using e)
    simp [this]

/-- A store into a node of an own tree: the tree is an own one again. -/
theorem TreeOwn.store {N g cap k c m : Nat} {w : World} {rs : List NodeV} (h : TreeOwn N w (.slice (some ⟨g, 0, none⟩) m cap) rs) (hk : k < rs.length) (hc : c < 10) (r : NodeV) (u : Value) (hu : nodeC r = (nodeC rs[k]).set c u) (hkv : r.kv = rs[k].kv) (hr : NodeOwn N w r) :
    TreeOwn N (w.setCell ⟨g, k * 10 + c, none⟩ u) (.slice (some ⟨g, 0, none⟩) m cap) (rs.set k r) ∧ w.cell? ⟨g, k * 10 + c, none⟩ = (nodeC rs[k])[c]? ∧ w.frozen? ⟨g, k * 10 + c, none⟩ = false ∧ N ≤ g ∧ g < w.heap.size := by
  have hm : m = rs.length := by obtain ⟨a, c', e, -⟩ := ownsRow_slice h.row; injection e
  subst hm
  obtain ⟨h1, h2, h3, h4, h5⟩ := ownsRow_set h.row (j := k * 10 + c) (by omega) u
  rw [nodeCells_set rs k hk c hc r u hu] at h1
  obtain ⟨cs, F, hgn⟩ := ownsRow_typed h.row g rfl
  refine ⟨⟨by rw [List.length_set]; exact h1, fun s hs => ?_, ?_⟩, h2.trans (nodeCells_get rs k hk c hc), h3, h4, h5⟩
  · rcases List.mem_or_eq_of_mem_set hs with hs | rfl
    · exact (h.own s hs).stored hgn u
    · exact hr.stored hgn u
  · have e := map_set_kv rs k hk r hkv
    have hp : (rs.map NodeV.kv).Pairwise (fun a b => ∀ g, a.ownBlock = some g → b.ownBlock ≠ some g) := List.pairwise_map.2 h.apart
    rw [← e] at hp
    exact List.pairwise_map.1 hp

/-- What the three stores read and leave. -/
structure Erased (N B g k m cap : Nat) (w : World) (rs : List NodeV) (r : NodeV) : Prop where
  c1 : w.cell? ⟨g, k * 10 + 1, none⟩ = some (.int .i64 r.n.fr)
  f1 : w.frozen? ⟨g, k * 10 + 1, none⟩ = false
  b1 : (w.setCell ⟨g, k * 10 + 1, none⟩ (.int .i64 0)).cell? ⟨B, 0, none⟩ = some (.slice (some ⟨g, 0, none⟩) m cap)
  c2 : (w.setCell ⟨g, k * 10 + 1, none⟩ (.int .i64 0)).cell? ⟨g, k * 10 + 2, none⟩ = some (.int .i64 r.n.to)
  f2 : (w.setCell ⟨g, k * 10 + 1, none⟩ (.int .i64 0)).frozen? ⟨g, k * 10 + 2, none⟩ = false
  b2 : ((w.setCell ⟨g, k * 10 + 1, none⟩ (.int .i64 0)).setCell ⟨g, k * 10 + 2, none⟩ (.int .i64 0)).cell? ⟨B, 0, none⟩ = some (.slice (some ⟨g, 0, none⟩) m cap)
  c3 : ((w.setCell ⟨g, k * 10 + 1, none⟩ (.int .i64 0)).setCell ⟨g, k * 10 + 2, none⟩ (.int .i64 0)).cell? ⟨g, k * 10 + 9, none⟩ = some r.pv
  f3 : ((w.setCell ⟨g, k * 10 + 1, none⟩ (.int .i64 0)).setCell ⟨g, k * 10 + 2, none⟩ (.int .i64 0)).frozen? ⟨g, k * 10 + 9, none⟩ = false
  keep : ∀ (D : Nat) (cs : Array Value) (F : Nat × Nat), w.heap[D]? = some (.cells cs 24 F) → (((w.setCell ⟨g, k * 10 + 1, none⟩ (.int .i64 0)).setCell ⟨g, k * 10 + 2, none⟩ (.int .i64 0)).setCell ⟨g, k * 10 + 9, none⟩ (.slice none 0 0)).heap[D]? = some (.cells cs 24 F)
  own : TreeOwn N (((w.setCell ⟨g, k * 10 + 1, none⟩ (.int .i64 0)).setCell ⟨g, k * 10 + 2, none⟩ (.int .i64 0)).setCell ⟨g, k * 10 + 9, none⟩ (.slice none 0 0)) (.slice (some ⟨g, 0, none⟩) m cap) (rs.set k ⟨eraseN r.n, r.kv, .slice none 0 0⟩)
  lt : N ≤ g

theorem erased_any {N B g k m cap : Nat} {w : World} {rs : List NodeV} (h : TreeOwn N w (.slice (some ⟨g, 0, none⟩) m cap) rs) (hB : w.heap[B]? = some (.cells #[.slice (some ⟨g, 0, none⟩) m cap] 24)) (hk : k < rs.length) : Erased N B g k m cap w rs rs[k] := by
  have h0 := h.own _ (List.getElem_mem hk)
  obtain ⟨t1, c1, f1, hN, -⟩ := h.store hk (c := 1) (by decide) ⟨{ rs[k].n with fr := 0 }, rs[k].kv, rs[k].pv⟩ (.int .i64 0) rfl rfl ⟨h0.kids, h0.pieces⟩
  have ty0 := ownsRow_typed h.row
  have B1 := block_grown (grown_set w g (k * 10 + 1) (.int .i64 0)) hB (by decide) (fun kk hkk => ty0 kk hkk)
  generalize hw1 : w.setCell ⟨g, k * 10 + 1, none⟩ (.int .i64 0) = w1 at *
  have hk1 : k < (rs.set k ⟨{ rs[k].n with fr := 0 }, rs[k].kv, rs[k].pv⟩).length := by rw [List.length_set]; exact hk
  have e1 : (rs.set k ⟨{ rs[k].n with fr := 0 }, rs[k].kv, rs[k].pv⟩)[k] = ⟨{ rs[k].n with fr := 0 }, rs[k].kv, rs[k].pv⟩ := List.getElem_set_self _
  have h1 := t1.own _ (List.getElem_mem hk1)
  rw [e1] at h1
  obtain ⟨t2, c2, f2, -, -⟩ := t1.store hk1 (c := 2) (by decide) ⟨{ eraseN rs[k].n with pieces := rs[k].n.pieces }, rs[k].kv, rs[k].pv⟩ (.int .i64 0) (by rw [e1]; rfl) (by rw [e1]) ⟨h1.kids, h1.pieces⟩
  rw [e1] at c2
  rw [List.set_set] at t2
  have ty1 := ownsRow_typed t1.row
  have B2 := block_grown (grown_set w1 g (k * 10 + 2) (.int .i64 0)) B1 (by decide) (fun kk hkk => ty1 kk hkk)
  generalize hw2 : w1.setCell ⟨g, k * 10 + 2, none⟩ (.int .i64 0) = w2 at *
  have hk2 : k < (rs.set k ⟨{ eraseN rs[k].n with pieces := rs[k].n.pieces }, rs[k].kv, rs[k].pv⟩).length := by rw [List.length_set]; exact hk
  have e2 : (rs.set k ⟨{ eraseN rs[k].n with pieces := rs[k].n.pieces }, rs[k].kv, rs[k].pv⟩)[k] = ⟨{ eraseN rs[k].n with pieces := rs[k].n.pieces }, rs[k].kv, rs[k].pv⟩ := List.getElem_set_self _
  have h2 := t2.own _ (List.getElem_mem hk2)
  rw [e2] at h2
  obtain ⟨t3, c3, f3, -, -⟩ := t2.store hk2 (c := 9) (by decide) ⟨eraseN rs[k].n, rs[k].kv, .slice none 0 0⟩ (.slice none 0 0) (by rw [e2]; rfl) (by rw [e2]) ⟨h2.kids, World.ownsRow_nil _ _ _ _⟩
  rw [e2] at c3
  rw [List.set_set] at t3
  have ty2 := ownsRow_typed t2.row
  have K1 : ∀ (D : Nat) (cs : Array Value) (F : Nat × Nat), w.heap[D]? = some (.cells cs 24 F) → w1.heap[D]? = some (.cells cs 24 F) := fun D cs F h => by
    rw [← hw1]
    exact block_grown (grown_set w g (k * 10 + 1) (.int .i64 0)) h (by decide) (fun kk hkk => ty0 kk hkk)
  have K2 : ∀ (D : Nat) (cs : Array Value) (F : Nat × Nat), w1.heap[D]? = some (.cells cs 24 F) → w2.heap[D]? = some (.cells cs 24 F) := fun D cs F h => by
    rw [← hw2]
    exact block_grown (grown_set w1 g (k * 10 + 2) (.int .i64 0)) h (by decide) (fun kk hkk => ty1 kk hkk)
  have K3 : ∀ (D : Nat) (cs : Array Value) (F : Nat × Nat), w2.heap[D]? = some (.cells cs 24 F) → (w2.setCell ⟨g, k * 10 + 9, none⟩ (.slice none 0 0)).heap[D]? = some (.cells cs 24 F) := fun D cs F h =>
    block_grown (grown_set w2 g (k * 10 + 9) (.slice none 0 0)) h (by decide) (fun kk hkk => ty2 kk hkk)
  subst hw2 hw1
  exact ⟨c1, f1, cell_only B1, c2, f2, cell_only B2, c3, f3, fun D cs F h => K3 D cs F (K2 D cs F (K1 D cs F h)), t3, hN⟩
theorem erase_map_step {rs : List NodeV} {l : List NodeP} {k : Nat} (h : rs.map NodeV.n = (l.take k).map eraseN ++ l.drop k) (hk : k < l.length) (hr : k < rs.length) (kv pv : Value) : (rs.set k ⟨eraseN rs[k].n, kv, pv⟩).map NodeV.n = (l.take (k + 1)).map eraseN ++ l.drop (k + 1) := by
  have hlen : ((l.take k).map eraseN).length = k := by rw [List.length_map, List.length_take]; omega
  have e : rs[k].n = l[k] := by
    have h1 : (rs.map NodeV.n)[k]? = some rs[k].n := by rw [List.getElem?_map, List.getElem?_eq_getElem hr]; rfl
    rw [h, List.getElem?_append_right (by omega), hlen, Nat.sub_self, List.getElem?_drop, Nat.add_zero, List.getElem?_eq_getElem hk] at h1
    exact (Option.some.inj h1).symm
  rw [List.map_set, h, List.set_append_right _ _ (by omega), hlen, Nat.sub_self, List.drop_eq_getElem_cons hk, List.set_cons_zero, List.take_succ_eq_append_getElem hk, List.map_append, List.append_assoc, e]
  rfl
end Go.Proofs.YtlebikmiophghaaDoor
