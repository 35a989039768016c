/-
  A store into one node of an own tree, a number more in the kids of one node: what the tree holds then. Conditions: none.
-/
import Derived.Test.YtlebikmiophghaaDoorTreeCopy
import Derived.Test.YtlebikmiophghaaDoorTreeW
import Derived.Test.YtlebikmiophghaaDoorTreeParents
import Derived.Test.YtlebikmiophghaaDoorTreeShow
set_option linter.unusedSimpArgs false
set_option linter.unusedVariables false
namespace Go.Proofs.YtlebikmiophghaaDoor
open Go.RowKit Go.Lib

theorem nodeC_length (r : NodeV) : (nodeC r).length = 10 := rfl
theorem nodeCells_set : ∀ (rs : List NodeV) (at_ : Nat) (hat : at_ < rs.length) (c : Nat) (_ : c < 10) (r : NodeV) (u : Value) (_ : nodeC r = (nodeC rs[at_]).set c u), (nodeCells rs).set (at_ * 10 + c) u = nodeCells (rs.set at_ r)
  | x :: t, 0, _, c, hc, r, u, hr => by
    have h1 : nodeCells (x :: t) = nodeC x ++ nodeCells t := by simp [nodeCells]
    have h2 : nodeCells ((x :: t).set 0 r) = nodeC r ++ nodeCells t := by simp [nodeCells]
    rw [h1, h2, Nat.zero_mul, Nat.zero_add, List.set_append_left _ _ (by rw [nodeC_length]; omega), hr]
    rfl
  | x :: t, k + 1, h, c, hc, r, u, hr => by
    have h1 : nodeCells (x :: t) = nodeC x ++ nodeCells t := by simp [nodeCells]
    have h2 : nodeCells ((x :: t).set (k + 1) r) = nodeC x ++ nodeCells (t.set k r) := by simp [nodeCells]
    rw [h1, h2, List.set_append_right _ _ (by rw [nodeC_length]; omega), nodeC_length, show (k + 1) * 10 + c - 10 = k * 10 + c by omega, nodeCells_set t k (by simpa using h) c hc r u hr]

/-- What a node of an own tree holds lies in own rows, whatever is stored into a row of nodes. -/
theorem NodeOwn.stored {N : Nat} {w : World} {r : NodeV} {g j : Nat} {cs : Array Value} {F : Nat × Nat} (h : NodeOwn N w r) (hg : w.heap[g]? = some (.cells cs 33 F)) (u : Value) : NodeOwn N (w.setCell ⟨g, j, none⟩ u) r :=
  h.grown (grown_set w g j u) fun k hk => by cases hk; exact ⟨_, _, hg⟩

/-- A store into one cell of one node. -/
theorem tree_set {N g cap at_ c : Nat} {w : World} {rs : List NodeV} (hrow : w.ownsRow N 33 10 (.slice (some ⟨g, 0, none⟩) rs.length cap) rs.length (nodeCells rs)) (hat : at_ < rs.length) (hc : c < 10) (r : NodeV) (u : Value) (hu : nodeC r = (nodeC rs[at_]).set c u)
    (hown : ∀ j (hj : j < rs.length), j ≠ at_ → NodeOwn N w rs[j])
    (hr : IntsIn (w.setCell ⟨g, at_ * 10 + c, none⟩ u).heap.size (w.setCell ⟨g, at_ * 10 + c, none⟩ u) r.kv r.n.kids ∧ PiecesIn (w.setCell ⟨g, at_ * 10 + c, none⟩ u).heap.size (w.setCell ⟨g, at_ * 10 + c, none⟩ u) r.pv r.n.pieces) :
    NodesIn (w.setCell ⟨g, at_ * 10 + c, none⟩ u).heap.size (w.setCell ⟨g, at_ * 10 + c, none⟩ u) (.slice (some ⟨g, 0, none⟩) rs.length cap) ((rs.map NodeV.n).set at_ r.n) ∧ w.cell? ⟨g, at_ * 10 + c, none⟩ = (nodeC rs[at_])[c]? ∧ w.frozen? ⟨g, at_ * 10 + c, none⟩ = false ∧ N ≤ g ∧ g < w.heap.size := by
  obtain ⟨h1, h2, h3, h4, h5⟩ := ownsRow_set hrow (j := at_ * 10 + c) (by omega) u
  rw [nodeCells_set rs at_ hat c hc r u hu] at h1
  have hg : ∃ cs F, w.heap[g]? = some (.cells cs 33 F) := ownsRow_typed hrow g rfl
  obtain ⟨cs, F, hg⟩ := hg
  refine ⟨?_, h2.trans (nodeCells_get rs at_ hat c hc), h3, h4, h5⟩
  have hl : rs.length = (rs.set at_ r).length := by simp
  have h1' : (w.setCell ⟨g, at_ * 10 + c, none⟩ u).ownsRow N 33 10 (.slice (some ⟨g, 0, none⟩) rs.length cap) (rs.set at_ r).length (nodeCells (rs.set at_ r)) := by rw [← hl]; exact h1
  have := nodesIn_of_owns h1' fun s hs => by
    obtain ⟨j, hj, rfl⟩ := List.mem_iff_getElem.1 hs
    rw [List.getElem_set]
    split
    · exact hr
    · rename_i hne
      exact ((hown j (by simpa using hj) (fun e => hne e.symm)).stored hg u).ints
  rw [List.map_set] at this
  exact this

/-- One number more in the kids of one node: the other nodes stay. -/
theorem tree_kid {N g cap at_ : Nat} {w w2 : World} {rs : List NodeV} {kv : Value} {k : Int} (h : TreeOwn N w (.slice (some ⟨g, 0, none⟩) rs.length cap) rs) (hat : at_ < rs.length)
    (hg : w.grownBy w2 rs[at_].kv.ownBlock) (hk : w2.ownsRow N 3 1 kv (rs[at_].n.kids ++ [k]).length (intCells (rs[at_].n.kids ++ [k]))) :
    NodesIn (w2.setCell ⟨g, at_ * 10 + 8, none⟩ kv).heap.size (w2.setCell ⟨g, at_ * 10 + 8, none⟩ kv) (.slice (some ⟨g, 0, none⟩) rs.length cap) ((rs.map NodeV.n).set at_ { rs[at_].n with kids := rs[at_].n.kids ++ [k] }) ∧ w2.cell? ⟨g, at_ * 10 + 8, none⟩ = some rs[at_].kv ∧ w2.frozen? ⟨g, at_ * 10 + 8, none⟩ = false ∧ N ≤ g ∧ g < w2.heap.size := by
  have hown := h.own _ (List.getElem_mem hat)
  have hty := ownsRow_typed hown.kids
  have hrow := ownsRow_unlike h.row hg (by decide) hty
  have hp := ownsRow_unlike hown.pieces hg (by decide) hty
  have hr : NodeOwn N w2 ⟨{ rs[at_].n with kids := rs[at_].n.kids ++ [k] }, kv, rs[at_].pv⟩ := ⟨hk, hp⟩
  obtain ⟨cs, F, hgn⟩ := ownsRow_typed hrow g rfl
  refine tree_set (c := 8) hrow hat (by decide) ⟨{ rs[at_].n with kids := rs[at_].n.kids ++ [k] }, kv, rs[at_].pv⟩ kv rfl (fun j hj hne => ?_) (hr.stored hgn kv).ints
  have ho := h.own _ (List.getElem_mem hj)
  refine ⟨ownsRow_apart ho.kids hg fun q hq => ?_, ownsRow_unlike ho.pieces hg (by decide) hty⟩
  rcases Nat.lt_or_gt_of_ne hne with hlt | hlt
  · exact fun e => (List.pairwise_iff_getElem.1 h.apart j at_ hj hat hlt) q e hq
  · exact (List.pairwise_iff_getElem.1 h.apart at_ j hat hj hlt) q hq

/-- A store into a cell of a node that is no slice. -/
theorem tree_plain {N g cap at_ c : Nat} {w : World} {rs : List NodeV} (h : TreeOwn N w (.slice (some ⟨g, 0, none⟩) rs.length cap) rs) (hat : at_ < rs.length) (hc : c < 8) (n : NodeP) (u : Value) (hu : nodeC ⟨n, rs[at_].kv, rs[at_].pv⟩ = (nodeC rs[at_]).set c u) (hk : n.kids = rs[at_].n.kids) (hp : n.pieces = rs[at_].n.pieces) :
    NodesIn (w.setCell ⟨g, at_ * 10 + c, none⟩ u).heap.size (w.setCell ⟨g, at_ * 10 + c, none⟩ u) (.slice (some ⟨g, 0, none⟩) rs.length cap) ((rs.map NodeV.n).set at_ n) ∧ w.cell? ⟨g, at_ * 10 + c, none⟩ = (nodeC rs[at_])[c]? ∧ w.frozen? ⟨g, at_ * 10 + c, none⟩ = false ∧ N ≤ g ∧ g < w.heap.size := by
  obtain ⟨cs, F, hgn⟩ := ownsRow_typed h.row g rfl
  have hown := h.own _ (List.getElem_mem hat)
  have hr : NodeOwn N w ⟨n, rs[at_].kv, rs[at_].pv⟩ := ⟨by rw [show (⟨n, rs[at_].kv, rs[at_].pv⟩ : NodeV).n.kids = rs[at_].n.kids from hk]; exact hown.kids, by rw [show (⟨n, rs[at_].kv, rs[at_].pv⟩ : NodeV).n.pieces = rs[at_].n.pieces from hp]; exact hown.pieces⟩
  exact tree_set h.row hat (by omega) ⟨n, rs[at_].kv, rs[at_].pv⟩ u hu (fun j hj _ => h.own _ (List.getElem_mem hj)) (hr.stored hgn u).ints

/-- A list of nodes that is no right tree. -/
structure WrongL (l : List NodeP) : Prop where
  len : l.length ≤ 100000
  kids : ∀ x ∈ l, x.kids.length ≤ 100000 ∧ x.pieces.length ≤ 100000
  ok : ∀ x ∈ l, NodeOk x
  bad : parentsP l = none
theorem wrong_set {l : List NodeP} {p : Nat} {v : NodeP} (hl : l.length ≤ 4000) (hk : ∀ x ∈ l, x.kids.length ≤ 4000 ∧ x.pieces.length ≤ 4000 ∧ x.text.size ≤ 4000 ∧ x.link.size ≤ 4000 ∧ x.title.size ≤ 4000) (hok : ∀ x ∈ l, NodeOk x) (hv : NodeOk v) (hv2 : v.kids.length ≤ 100000 ∧ v.pieces.length ≤ 100000) (hb : parentsP (l.set p v) = none) : WrongL (l.set p v) := by
  refine ⟨by simp; omega, fun x hx => ?_, fun x hx => ?_, hb⟩
  · rcases List.mem_or_eq_of_mem_set hx with h | rfl
    · have := hk x h; omega
    · exact hv2
  · rcases List.mem_or_eq_of_mem_set hx with h | rfl
    · exact hok x h
    · exact hv
theorem wrong_copy (a : Option Addr) (cap n : Nat) {l : List NodeP} (hn : n = l.length) (h : WrongL l) (w : World) (hI : NodesIn w.heap.size w (.slice a n cap) l) :
    Calls Tryd.prog 15 #[.agg #[.slice a n cap]] w fun e w' => (∃ a' c', e = .returned (.agg #[.slice a' n c']) ∧ NodesIn w'.heap.size w' (.slice a' n c') l) ∧ Below w.heap.size w w' := by
  subst hn
  refine (copyTree_own a cap l h.len h.kids w hI).mono ?_
  rintro e w' ⟨⟨v, rs, rfl, hT, hM⟩, b⟩
  have hn := hT.nodes
  rw [hM] at hn
  obtain ⟨a', c', rfl, -⟩ := id hn
  exact ⟨⟨a', c', rfl, hn⟩, b⟩
theorem wrong_show (a : Option Addr) (cap n : Nat) {l : List NodeP} (hn : n = l.length) (h : WrongL l) (w : World) (hI : NodesIn w.heap.size w (.slice a n cap) l) :
    Calls Tryd.prog 17 #[.agg #[.slice a n cap], .bool true] w fun e w' => e = .returned (.tuple #[.string ⟨#[]⟩, .int .i64 30]) ∧ Below w.heap.size w w' := by
  subst hn
  exact show_none a cap l true h.bad h.len h.ok w hI
theorem wrong_right (a : Option Addr) (cap n : Nat) {l : List NodeP} (hn : n = l.length) (h : WrongL l) (w : World) (hI : NodesIn w.heap.size w (.slice a n cap) l) :
    Calls Tryd.prog 14 #[.agg #[.slice a n cap]] w fun e w' => e = .returned (.bool false) ∧ Below w.heap.size w w' := by
  subst hn
  have := right_any a cap l h.len h.ok w hI
  rw [h.bad] at this
  exact this

/-- A box holds a tree that is not right. -/
structure WrongX (w X : World) (B : Nat) (a : Option Addr) (m c : Nat) (l : List NodeP) : Prop where
  bad : WrongL l
  len : m = l.length
  nodes : NodesIn X.heap.size X (.slice a m c) l
  box : X.cell? ⟨B, 0, none⟩ = some (.slice a m c)
  lt : B < X.heap.size
  below : Below w.heap.size w X
theorem WrongX.later {w X Y : World} {B : Nat} {a : Option Addr} {m c : Nat} {l : List NodeP} (h : WrongX w X B a m c l) (hb : Below X.heap.size X Y) : WrongX w Y B a m c l :=
  ⟨h.bad, h.len, h.nodes.later hb, (hb.cell (p := ⟨B, 0, none⟩) h.lt).trans h.box, Nat.lt_of_lt_of_le h.lt hb.size, h.below.trans (hb.mono h.below.size)⟩
/-- A store into a node of the tree in the box. -/
theorem wrongX_set {w X : World} {B N g j cp : Nat} {rs : List NodeV} {u : Value} {L : List NodeP} {F : Nat × Nat} (hrow : X.ownsRow N 33 10 (.slice (some ⟨g, 0, none⟩) rs.length cp) rs.length (nodeCells rs)) (hb : X.heap[B]? = some (.cells #[.slice (some ⟨g, 0, none⟩) rs.length cp] 24 F)) (hw : Below w.heap.size w X) (hN : w.heap.size ≤ N)
    (hL : WrongL L) (hlen : rs.length = L.length) (h : NodesIn (X.setCell ⟨g, j, none⟩ u).heap.size (X.setCell ⟨g, j, none⟩ u) (.slice (some ⟨g, 0, none⟩) rs.length cp) L) : WrongX w (X.setCell ⟨g, j, none⟩ u) B (some ⟨g, 0, none⟩) rs.length cp L := by
  obtain ⟨cs, F', hg⟩ := ownsRow_typed hrow g rfl
  have hgb := (ownsRow_lt hrow (k := g) rfl).1
  have hb2 := block_grown (T' := 33) (grown_set X g j u) hb (by decide) (fun k hk => by cases hk; exact ⟨cs, F', hg⟩)
  exact ⟨hL, hlen, h, cell_only hb2, (Array.getElem?_eq_some_iff.1 hb2).1, hw.setCell (p := ⟨g, j, none⟩) (by show w.heap.size ≤ g; omega) u⟩

theorem nodes_at {N g cap p : Nat} {w : World} {rs : List NodeV} (h : TreeOwn N w (.slice (some ⟨g, 0, none⟩) rs.length cap) rs) (hp : p < rs.length) {c : Nat} (hc : c < 10) : w.cell? ⟨g, p * 10 + c, none⟩ = (nodeC rs[p])[c]? := by
  obtain ⟨-, h2, -⟩ := ownsRow_set h.row (j := p * 10 + c) (by omega) (.bool true)
  exact h2.trans (nodeCells_get rs p hp c hc)
theorem nodes_to {N g cap p : Nat} {w : World} {rs : List NodeV} (h : TreeOwn N w (.slice (some ⟨g, 0, none⟩) rs.length cap) rs) (hp : p < rs.length) : w.cell? ⟨g, p * 10 + 2, none⟩ = some (.int .i64 rs[p].n.to) := nodes_at h hp (c := 2) (by decide)
theorem wrap_more64 {t : Int} (h : -9223372036854775808 ≤ t ∧ t ≤ 9223372036854775807) : wrap64 (t + 1) < 0 ∨ t < wrap64 (t + 1) := by
  unfold wrap64
  omega

/-- One piece in place of a node's pieces. -/
theorem tree_piece {N g cap p P : Nat} {w : World} {rs : List NodeV} {F : Nat × Nat} (h : TreeOwn N w (.slice (some ⟨g, 0, none⟩) rs.length cap) rs) (hp : p < rs.length) (hP : w.heap[P]? = some (.cells #[.int .i64 0, .int .i64 0] 36 F)) :
    NodesIn (w.setCell ⟨g, p * 10 + 9, none⟩ (.slice (some ⟨P, 0, none⟩) 1 1)).heap.size (w.setCell ⟨g, p * 10 + 9, none⟩ (.slice (some ⟨P, 0, none⟩) 1 1)) (.slice (some ⟨g, 0, none⟩) rs.length cap) ((rs.map NodeV.n).set p { rs[p].n with pieces := [⟨0, 0⟩] }) ∧ w.cell? ⟨g, p * 10 + 9, none⟩ = some rs[p].pv ∧ w.frozen? ⟨g, p * 10 + 9, none⟩ = false ∧ N ≤ g ∧ g < w.heap.size := by
  obtain ⟨cs, F', hgn⟩ := ownsRow_typed h.row g rfl
  have hb := block_grown (T' := 33) (grown_set w g (p * 10 + 9) (.slice (some ⟨P, 0, none⟩) 1 1)) hP (by decide) (fun k hk => by cases hk; exact ⟨cs, F', hgn⟩)
  refine tree_set (c := 9) h.row hp (by decide) ⟨{ rs[p].n with pieces := [⟨0, 0⟩] }, rs[p].kv, .slice (some ⟨P, 0, none⟩) 1 1⟩ (.slice (some ⟨P, 0, none⟩) 1 1) rfl (fun j hj _ => h.own _ (List.getElem_mem hj)) ⟨((h.own _ (List.getElem_mem hp)).stored hgn _).ints.1, ?_⟩
  refine ⟨some ⟨P, 0, none⟩, 1, rfl, fun _ => ⟨P, 0, rfl, (Array.getElem?_eq_some_iff.1 hb).1, fun j hj => ?_⟩⟩
  have hj0 : j = 0 := by simpa using hj
  subst hj0
  exact ⟨by simp [World.cell?, hb], by simp [World.cell?, hb]⟩

/-- A node that holds no rows. -/
def paraN : NodeP := ⟨5, 0, 0, 0, ⟨#[]⟩, ⟨#[]⟩, ⟨#[]⟩, false, [], []⟩
abbrev paraV : NodeV := ⟨paraN, .slice none 0 0, .slice none 0 0⟩
theorem para_own (N : Nat) (w : World) : NodeOwn N w paraV := ⟨World.ownsRow_nil _ _ _ _, World.ownsRow_nil _ _ _ _⟩
theorem para_ok : NodeOk paraN := by
  have e0 : (⟨#[]⟩ : ByteArray).size ≤ 140737488355328 := by decide
  exact ⟨e0, e0, e0, by simp [paraN], by simp [paraN], by simp [paraN], by simp [paraN]⟩
theorem wrong_para {l : List NodeP} {up : List Int} (hl : l.length ≤ 4000) (hk : ∀ x ∈ l, x.kids.length ≤ 4000 ∧ x.pieces.length ≤ 4000 ∧ x.text.size ≤ 4000 ∧ x.link.size ≤ 4000 ∧ x.title.size ≤ 4000) (hok : ∀ x ∈ l, NodeOk x) (hp : parentsP l = some up) : WrongL (l ++ [paraN]) := by
  refine ⟨by simp; omega, fun x hx => ?_, fun x hx => ?_, wrong_more (parents_right hp) paraN⟩
  · rcases List.mem_append.1 hx with h | h
    · have := hk x h; omega
    · obtain rfl := List.mem_singleton.1 h; simp [paraN]
  · rcases List.mem_append.1 hx with h | h
    · exact hok x h
    · obtain rfl := List.mem_singleton.1 h; exact para_ok
/-- One node more. -/
theorem tree_more {N g cap B : Nat} {w0 w w8 : World} {rs : List NodeV} {v' : Value} {F : Nat × Nat} (h : TreeOwn N w (.slice (some ⟨g, 0, none⟩) rs.length cap) rs) (hb : w.heap[B]? = some (.cells #[.slice (some ⟨g, 0, none⟩) rs.length cap] 24 F)) (hw : Below w0.heap.size w0 w) (hN : w0.heap.size ≤ N) (hB : w0.heap.size ≤ B) (hL : WrongL (rs.map NodeV.n ++ [paraN]))
    (h5 : w8.ownsRow N 33 10 v' (rs.length + 1) (nodeCells rs ++ nodeC paraV)) (hg : w.grownBy w8 (some g)) :
    (w8.cell? ⟨B, 0, none⟩ = some (.slice (some ⟨g, 0, none⟩) rs.length cap) ∧ w8.heap[B]? = some (.cells #[.slice (some ⟨g, 0, none⟩) rs.length cap] 24 F)) ∧ ∃ a c, v' = .slice a (rs.length + 1) c ∧ WrongX w0 (w8.setCell ⟨B, 0, none⟩ v') B a (rs.length + 1) c (rs.map NodeV.n ++ [paraN]) := by
  have hty := ownsRow_typed h.row
  have hb8 := block_grown (T' := 33) hg hb (by decide) hty
  obtain ⟨a, c, rfl, -⟩ := ownsRow_slice h5
  have hT8 : TreeOwn N w8 (.slice a (rs.length + 1) c) (rs ++ [paraV]) := h.snoc (para_own N w) (fun s hs q hq e => by cases e) h5 hg
  have hT9 := hT8.unlike (grown_set w8 B 0 (.slice a (rs.length + 1) c)) (T := 24) (by decide) (by decide) (by decide) (fun kk hk => by cases hk; exact ⟨_, _, hb8⟩)
  have hn := hT9.nodes
  rw [List.map_append] at hn
  have h9 : (w8.setCell ⟨B, 0, none⟩ (.slice a (rs.length + 1) c)).heap[B]? = some (.cells #[.slice a (rs.length + 1) c] 24 F) := by
    simp [World.setCell, Array.getElem?_modify, hb8]
  have hB8 := (Below.grown hw hg hw.size (fun kk hk => by cases hk; exact Nat.le_trans hN (ownsRow_lt h.row (k := g) rfl).1)).setCell (p := ⟨B, 0, none⟩) hB (.slice a (rs.length + 1) c)
  exact ⟨⟨cell_only hb8, hb8⟩, a, c, rfl, hL, by simp, hn, cell_only h9, (Array.getElem?_eq_some_iff.1 h9).1, hB8⟩

theorem tree_kid2 {N g cap B p : Nat} {w0 w w5 : World} {rs : List NodeV} {v5 kv0 : Value} {F : Nat × Nat} {k : Int} (h : TreeOwn N w (.slice (some ⟨g, 0, none⟩) rs.length cap) rs) (hp : p < rs.length) (hkv : rs[p].kv = kv0) (hb : w.heap[B]? = some (.cells #[.slice (some ⟨g, 0, none⟩) rs.length cap] 24 F)) (hw : Below w0.heap.size w0 w) (hN : w0.heap.size ≤ N)
    (hL : WrongL ((rs.map NodeV.n).set p { rs[p].n with kids := rs[p].n.kids ++ [k] })) (h5 : w5.ownsRow N 3 1 v5 (rs[p].n.kids.length + 1) (intCells rs[p].n.kids ++ [.int .i64 k])) (hg : w.grownBy w5 kv0.ownBlock) :
    (w5.cell? ⟨g, p * 10 + 8, none⟩ = some kv0 ∧ w5.frozen? ⟨g, p * 10 + 8, none⟩ = false) ∧ RowKit.Hid (WrongX w0 (w5.setCell ⟨g, p * 10 + 8, none⟩ v5) B (some ⟨g, 0, none⟩) rs.length cap ((rs.map NodeV.n).set p { rs[p].n with kids := rs[p].n.kids ++ [k] })) := by
  subst hkv
  have hown := h.own _ (List.getElem_mem hp)
  have hty := ownsRow_typed hown.kids
  obtain ⟨h1, h2, h3, h4, h6⟩ := tree_kid (w2 := w5) (kv := v5) (k := k) h hp hg (by rw [intCells_snoc, List.length_append]; exact h5)
  have hb5 := block_grown (T' := 3) hg hb (by decide) hty
  have hrow := ownsRow_unlike h.row hg (by decide) hty
  exact ⟨⟨h2, h3⟩, wrongX_set hrow hb5 (Below.grown hw hg hw.size (fun kk hk => Nat.le_trans hN (ownsRow_lt hown.kids hk).1)) hN hL (by simp) h1⟩
theorem step_append_own {P : Program} {ops : Array Oper} {o : Oper} {a : Act} {w : World} {K : Act → World → Prop} {Q : Exit → Act → World → Prop} {E : Prop}
    (hg : o.guard = none) (s x : Operand) (t : TypeId) (hop : o.op = Op.call { callee := Callee.builtin Builtin.append, args := #[s, x], argTypes := #[t, t] })
    (base : Nat) (e : TypeId) (i : TypeInfo) (z : Value) (size bytes : Nat) (h1 : P.underlying t = some (.slice e)) (h2 : P.info? e = some i) (h3 : i.zero = some z) (h4 : i.size = size) (h5 : i.bytes = bytes) (h6 : z.cells.size = size) (h7 : 0 < size)
    (v : Value) (n : Nat) (xs : List Value) (hs : a.eval s = v) (hown : w.ownsRow base e size v n xs)
    (ad : Addr) (m c : Nat) (news : List Value) (hx : a.eval x = .slice (some ad) m c) (hn : news.length = m * size) (hc : ∀ j u, news[j]? = some u → w.cell? (ad.add j) = some u) (h1c : ∀ u ∈ news, u.oneCell' = true)
    (b1 : n + m ≤ maxLen) (b2 : (n + m) * bytes ≤ 140737488355328) (hbase : base ≤ w.heap.size)
    (hK : ∀ v' w', w'.ownsRow base e size v' (n + m) (xs ++ news) → w.grownBy w' v.ownBlock → K (a.put o.dst v') w') :
    if Region.wanted o (yielded ops a.tmps) = true then Oper.wp P o a w K Q else E := by
  have hw : Region.wanted o (yielded ops a.tmps) = true := by simp [Region.wanted, hg]
  rw [if_pos hw]
  obtain ⟨v', w', hrun, r1, r2, _⟩ := run_append_own (P := P) w base t o.type e i z size bytes h1 h2 h3 h4 h5 h6 h7 v n xs hown ad m c news hn hc h1c b1 b2 hbase
  unfold Oper.wp
  simp [execOp, hop, resolve, invoke, builtin, hs, hx, hrun, Result.andThen]
  exact hK v' w' r1 r2
theorem newInt {w : World} (x : Value) (T : TypeId) : ∀ (j : Nat) (u : Value), ([x] : List Value)[j]? = some u → (w.alloc (.cells #[x] T)).cell? ((⟨w.heap.size, 0, none⟩ : Addr).add j) = some u := by
  intro j u hu
  have hj : j = 0 := by
    have := (List.getElem?_eq_some_iff.1 hu).1
    simpa using this
  subst hj
  rw [Addr.add_lit, World.cell?_alloc_new]
  simpa using hu
theorem oneInt (k : Int) : ∀ u ∈ ([.int .i64 k] : List Value), u.oneCell' = true := by
  intro u hu
  obtain rfl := List.mem_singleton.1 hu
  rfl
end Go.Proofs.YtlebikmiophghaaDoor
