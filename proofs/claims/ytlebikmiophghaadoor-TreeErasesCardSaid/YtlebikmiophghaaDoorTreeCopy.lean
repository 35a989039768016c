/-
  CopyInts, CopyPieces, CopyTree, WeighTree. Conditions: bounds on sizes.
-/
import Derived.Test.YtlebikmiophghaaDoorTreeFields
set_option linter.unusedSimpArgs false
set_option linter.unusedVariables false
namespace Go.Proofs.YtlebikmiophghaaDoor
open Go.RowKit Go.Lib

theorem frozen_plain {w : World} {L : Nat} {cs : Array Value} {T : TypeId} (h : w.heap[L]? = some (.cells cs T)) (i : Nat) : w.frozen? ⟨L, i, none⟩ = false := by
  simp [World.frozen?, h]
theorem set_kids {w : World} {L : Nat} {a0 a1 a2 a3 a4 a5 a6 a7 a8 a9 x : Value} {T : TypeId} (h : w.heap[L]? = some (.cells #[a0, a1, a2, a3, a4, a5, a6, a7, a8, a9] T)) : (w.setCell ⟨L, 8, none⟩ x).heap[L]? = some (.cells #[a0, a1, a2, a3, a4, a5, a6, a7, x, a9] T) := by
  simp [World.setCell, Array.getElem?_modify, h]
theorem set_pieces {w : World} {L : Nat} {a0 a1 a2 a3 a4 a5 a6 a7 a8 a9 x : Value} {T : TypeId} (h : w.heap[L]? = some (.cells #[a0, a1, a2, a3, a4, a5, a6, a7, a8, a9] T)) : (w.setCell ⟨L, 9, none⟩ x).heap[L]? = some (.cells #[a0, a1, a2, a3, a4, a5, a6, a7, a8, x] T) := by
  simp [World.setCell, Array.getElem?_modify, h]
theorem set_only {w : World} {L : Nat} {a x : Value} {T : TypeId} (h : w.heap[L]? = some (.cells #[a] T)) : (w.setCell ⟨L, 0, none⟩ x).heap[L]? = some (.cells #[x] T) := by
  simp [World.setCell, Array.getElem?_modify, h]
theorem cell_only {w : World} {L : Nat} {a : Value} {T : TypeId} {F : Nat × Nat} (h : w.heap[L]? = some (.cells #[a] T F)) : w.cell? ⟨L, 0, none⟩ = some a := by
  simp [World.cell?, h]
theorem new_ten (w : World) (T : TypeId) (r : NodeV) (L : Nat) (hL : L = w.heap.size) : ∀ j u, (nodeC r)[j]? = some u → (w.alloc (.cells #[.int .i64 r.n.kind, .int .i64 r.n.fr, .int .i64 r.n.to, .int .i64 r.n.level, .string r.n.text, .string r.n.link, .string r.n.title, .bool r.n.tight, r.kv, r.pv] T)).cell? ((⟨L, 0, none⟩ : Addr).add j) = some u := by
  subst hL
  intro j u hu
  rw [Addr.add_lit, Nat.zero_add, World.cell?_alloc_new]
  rw [← hu]
  simp [nodeC]
theorem one_ten (r : NodeV) (hk : r.kv.oneCell' = true) (hp : r.pv.oneCell' = true) : ∀ u ∈ nodeC r, u.oneCell' = true := by
  intro u hu
  simp only [nodeC, List.mem_cons, List.mem_nil_iff, or_false] at hu
  rcases hu with rfl | rfl | rfl | rfl | rfl | rfl | rfl | rfl | rfl | rfl <;> first | rfl | assumption
theorem ownBlock_lt {w : World} {base n size g : Nat} {e : TypeId} {v : Value} {xs : List Value} (h : w.ownsRow base e size v n xs) (hv : v.ownBlock = some g) : base ≤ g ∧ g < w.heap.size := ownsRow_lt h hv

set_option maxRecDepth 100000 in
set_option maxHeartbeats 4000000 in
theorem copyInts_own (a : Option Addr) (cap : Nat) (l : List Int) (hl : l.length ≤ 1000000) (w : World) (hI : IntsIn w.heap.size w (.slice a l.length cap) l) :
    Calls Tryd.prog 36 #[.slice a l.length cap] w fun e w' => (∃ v, e = .returned v ∧ w'.ownsRow w.heap.size 3 1 v l.length (intCells l)) ∧ Below w.heap.size w w' := by
  have hN : Below w.heap.size w (w.alloc (.cells #[] 3)) := (Below.refl _ w).alloc (Nat.le_refl _) _
  have hown : (w.alloc (.cells #[] 3)).ownsRow w.heap.size 3 1 (.slice (some ⟨w.heap.size, 0, none⟩) 0 0) ([] : List Int).length (intCells []) := ⟨rfl, .inr ⟨w.heap.size, 0, #[], rfl, Nat.le_refl _, heap_alloc_new w _, Nat.le_refl _, by decide, rfl, rfl⟩⟩
  have hI1 := hI.below hN
  clear hI
  go_enter Tryd.func36, Tryd.ntmps36
  go_wp2_with (at_builtin; (refine wpList_append_ints rfl _ _ rfl w.heap.size _ [] rfl hown a l cap rfl hI1 (by simp) hl (by simp) ?_); intro v' w4 hown' hgrow; rw [List.nil_append] at hown'; obtain ⟨a', cap', rfl, -⟩ := ownsRow_slice hown')
  go_ret
  exact ⟨⟨_, rfl, hown'⟩, hN.grown hgrow (by simp) (fun kk hk => (ownsRow_lt hown hk).1)⟩

set_option maxRecDepth 100000 in
set_option maxHeartbeats 4000000 in
theorem copyPieces_own (a : Option Addr) (cap : Nat) (l : List PieceP) (hl : l.length ≤ 1000000) (w : World) (hI : PiecesIn w.heap.size w (.slice a l.length cap) l) :
    Calls Tryd.prog 37 #[.slice a l.length cap] w fun e w' => (∃ v, e = .returned v ∧ w'.ownsRow w.heap.size 36 2 v l.length (pieceCells l)) ∧ Below w.heap.size w w' := by
  have hN : Below w.heap.size w (w.alloc (.cells #[] 36)) := (Below.refl _ w).alloc (Nat.le_refl _) _
  have hown : (w.alloc (.cells #[] 36)).ownsRow w.heap.size 36 2 (.slice (some ⟨w.heap.size, 0, none⟩) 0 0) ([] : List PieceP).length (pieceCells []) := ⟨rfl, .inr ⟨w.heap.size, 0, #[], rfl, Nat.le_refl _, heap_alloc_new w _, Nat.le_refl _, by decide, rfl, rfl⟩⟩
  have hI1 := hI.below hN
  clear hI
  go_enter Tryd.func37, Tryd.ntmps37
  go_wp2_with (at_builtin; (refine wpList_append_pieces rfl _ _ rfl w.heap.size _ [] rfl hown a l cap rfl hI1 (by simp) hl (by simp) ?_); intro v' w4 hown' hgrow; rw [List.nil_append] at hown'; obtain ⟨a', cap', rfl, -⟩ := ownsRow_slice hown')
  go_ret
  exact ⟨⟨_, rfl, hown'⟩, hN.grown hgrow (by simp) (fun kk hk => (ownsRow_lt hown hk).1)⟩

/-- A row of nodes that the call owns, with all that they hold. -/
structure TreeOwn (N : Nat) (w : World) (v : Value) (rs : List NodeV) : Prop where
  row : w.ownsRow N 33 10 v rs.length (nodeCells rs)
  own : ∀ r ∈ rs, NodeOwn N w r
  apart : rs.Pairwise fun r s => ∀ g, r.kv.ownBlock = some g → s.kv.ownBlock ≠ some g
theorem TreeOwn.later {N : Nat} {w w' : World} {v : Value} {rs : List NodeV} (h : TreeOwn N w v rs) (hb : Below w.heap.size w w') : TreeOwn N w' v rs := ⟨ownsRow_below h.row hb, fun r hr => (h.own r hr).later hb, h.apart⟩
theorem TreeOwn.nodes {N : Nat} {w : World} {v : Value} {rs : List NodeV} (h : TreeOwn N w v rs) : NodesIn w.heap.size w v (rs.map NodeV.n) := nodesIn_of_owns h.row fun r hr => (h.own r hr).ints
theorem TreeOwn.nil (N : Nat) (w : World) : TreeOwn N w (.slice none 0 0) [] := ⟨World.ownsRow_nil _ _ _ _, (fun r hr => by cases hr), List.Pairwise.nil⟩
theorem TreeOwn.unlike {N : Nat} {w w' : World} {v : Value} {rs : List NodeV} {row : Option Nat} {T : TypeId} (h : TreeOwn N w v rs) (hg : w.grownBy w' row) (h1 : 33 ≠ T) (h2 : 3 ≠ T) (h3 : 36 ≠ T) (hr : ∀ k, row = some k → ∃ c fz, w.heap[k]? = some (.cells c T fz)) : TreeOwn N w' v rs :=
  ⟨ownsRow_unlike h.row hg h1 hr, fun r hx => ⟨ownsRow_unlike (h.own r hx).kids hg h2 hr, ownsRow_unlike (h.own r hx).pieces hg h3 hr⟩, h.apart⟩
/-- One node more. -/
theorem TreeOwn.snoc {N : Nat} {w w5 : World} {v v5 : Value} {rs : List NodeV} {r : NodeV} (h : TreeOwn N w v rs) (hr : NodeOwn N w r) (ha : ∀ s ∈ rs, ∀ g, s.kv.ownBlock = some g → r.kv.ownBlock ≠ some g) (h5 : w5.ownsRow N 33 10 v5 (rs.length + 1) (nodeCells rs ++ nodeC r)) (hg : w.grownBy w5 v.ownBlock) : TreeOwn N w5 v5 (rs ++ [r]) := by
  have ht := ownsRow_typed h.row
  refine ⟨by rw [List.length_append, nodeCells_snoc]; exact h5, fun s hs => ?_, List.pairwise_append.2 ⟨h.apart, List.pairwise_singleton _ _, fun s hs t ht => ?_⟩⟩
  · rcases List.mem_append.1 hs with hs | hs
    · exact (h.own s hs).grown hg ht
    · rw [List.mem_singleton.1 hs]; exact hr.grown hg ht
  · rw [List.mem_singleton.1 ht]; exact ha s hs
theorem block_grown {w w5 : World} {row : Option Nat} {i : Nat} {cs : Array Value} {T T' : TypeId} {fr : Nat × Nat} (hg : w.grownBy w5 row) (hi : w.heap[i]? = some (.cells cs T fr)) (hT : T ≠ T') (hr : ∀ k, row = some k → ∃ c fz, w.heap[k]? = some (.cells c T' fz)) : w5.heap[i]? = some (.cells cs T fr) := by
  rw [← hi]
  refine hg.block i (Array.getElem?_eq_some_iff.1 hi).1 fun e => ?_
  obtain ⟨c, fz, hc⟩ := hr i e.symm
  rw [hi] at hc
  simp only [Option.some.injEq, Obj.cells.injEq] at hc
  exact hT hc.2.1

set_option maxRecDepth 100000 in
set_option maxHeartbeats 8000000 in
theorem copyTree_own (a : Option Addr) (cap : Nat) (l : List NodeP) (hl : l.length ≤ 100000) (hk : ∀ x ∈ l, x.kids.length ≤ 100000 ∧ x.pieces.length ≤ 100000) (w : World) (hI : NodesIn w.heap.size w (.slice a l.length cap) l) :
    Calls Tryd.prog 15 #[.agg #[.slice a l.length cap]] w fun e w' => (∃ v rs, e = .returned (.agg #[v]) ∧ TreeOwn w.heap.size w' v rs ∧ rs.map NodeV.n = l) ∧ Below w.heap.size w w' := by
  have HI := Lib.hid hI
  have HK := Lib.hid hk
  obtain ⟨i0, hi, hz0, hz1, hz2⟩ := info_parts infoNode
  have mixed : Tryd.prog.follows Departure.mixedOrders = true := rfl
  clear hI hk
  go_enter Tryd.func15, Tryd.ntmps15
  go_wp2
  go_loopw [4] (fun iv wr => ∃ (k : Nat) (rs : List NodeV) (v : Value), k ≤ l.length ∧ iv = .int .i64 k ∧ wr.heap[w.heap.size]? = some (.cells #[.slice a l.length cap] 24) ∧ wr.heap[w.heap.size + 1]? = some (.cells #[.slice none 0 0] 24) ∧ wr.heap[w.heap.size + 1 + 1]? = some (.cells #[v] 24) ∧ TreeOwn w.heap.size wr v rs ∧ Below w.heap.size w wr ∧ rs.length ≤ k ∧ RowKit.Hid (rs.map NodeV.n = l.take k)) (fun iv _ => l.length - (RowKit.intOf iv).toNat)
  case atStart =>
    refine ⟨0, [], .slice none 0 0, Nat.zero_le _, rfl, ?_, ?_, ?_, TreeOwn.nil _ _, (((Below.refl _ w).alloc (Nat.le_refl _) _).alloc (by simp) _).alloc (by simp; omega) _, Nat.le_refl _, rfl⟩
    · rw [heap_alloc_old _ _ (by simp; omega), heap_alloc_old _ _ (by simp)]; exact heap_alloc_new w _
    · rw [heap_alloc_old _ _ (by simp)]
      have := heap_alloc_new (w.alloc (.cells #[.slice a l.length cap] 24)) (.cells #[.slice none 0 0] 24)
      simpa using this
    · have := heap_alloc_new ((w.alloc (.cells #[.slice a l.length cap] 24)).alloc (.cells #[.slice none 0 0] 24)) (.cells #[.slice none 0 0] 24)
      simpa using this
  case round =>
    obtain ⟨k, rs, v, hk, rfl, hp0, hp1, hp2, hT, hbw, hrl, HM⟩ := hrel
    have q0 := cell_only hp0
    have q2 := cell_only hp2
    by_cases hlt : k < l.length
    · have hlt' : (k : Int) < (l.length : Int) := by omega
      obtain ⟨hkl, hpl⟩ := HK.out l[k] (List.getElem_mem hlt)
      obtain ⟨g, off, rfl, hgl, -, hc⟩ := (HI.out.below hbw).at hlt
      obtain ⟨c0, c1, c2, c3, c4, c5, c6, c7, ⟨ka, kc, c8, hkI⟩, ⟨pa, pc, c9, hpI⟩⟩ := hc k hlt
      have HTK : RowKit.Hid (∀ kv pv, (rs ++ [(⟨l[k], kv, pv⟩ : NodeV)]).map NodeV.n = l.take (k + 1)) := fun kv pv => by
        rw [List.map_append, HM.out, List.take_succ_eq_append_getElem hlt]; rfl
      clear hc
      generalize l[k] = x at *
      have zw := hbw.size
      have hNB : Below wr.heap.size wr (wr.alloc (.cells #[.int .i64 x.kind, .int .i64 x.fr, .int .i64 x.to, .int .i64 x.level, .string x.text, .string x.link, .string x.title, .bool x.tight, .slice ka x.kids.length kc, .slice pa x.pieces.length pc] 33)) := (Below.refl _ wr).alloc (Nat.le_refl _) _
      have hNs := heap_alloc_new wr (.cells #[.int .i64 x.kind, .int .i64 x.fr, .int .i64 x.to, .int .i64 x.level, .string x.text, .string x.link, .string x.title, .bool x.tight, .slice ka x.kids.length kc, .slice pa x.pieces.length pc] 33)
      have hNz : (wr.alloc (.cells #[.int .i64 x.kind, .int .i64 x.fr, .int .i64 x.to, .int .i64 x.level, .string x.text, .string x.link, .string x.title, .bool x.tight, .slice ka x.kids.length kc, .slice pa x.pieces.length pc] 33)).heap.size = wr.heap.size + 1 := by simp
      have HB1 := Lib.hid hNB
      have HN1 := Lib.hid hNs
      have HKI := Lib.hid hkI
      have HPI := Lib.hid hpI
      have HT := Lib.hid hT
      have HBW := Lib.hid hbw
      have hkC := copyInts_own ka kc x.kids (by omega) _ ((hkI.below (hNB.mono zw)).mono (by omega))
      clear hNB hNs hkI hpI hT hbw
      go_wp2_with fail
      refine hkC.mono ?_
      clear hkC
      rintro e w2 ⟨⟨kv0, rfl, hko⟩, b2⟩
      obtain ⟨ka', kc', rfl, -⟩ := ownsRow_slice hko
      have z2 := b2.size
      have hS2 : w2.heap[wr.heap.size]? = some (.cells #[.int .i64 x.kind, .int .i64 x.fr, .int .i64 x.to, .int .i64 x.level, .string x.text, .string x.link, .string x.title, .bool x.tight, .slice ka x.kids.length kc, .slice pa x.pieces.length pc] 33) := (b2.block _ (by omega)).trans HN1.out
      have f8 := frozen_plain hS2 8
      have hB2 := HB1.out.trans (b2.mono (by omega))
      have hS3 := set_kids (x := .slice ka' x.kids.length kc') hS2
      have hB3 : Below wr.heap.size wr (w2.setCell ⟨wr.heap.size, 8, none⟩ (.slice ka' x.kids.length kc')) := hB2.setCell (p := ⟨wr.heap.size, 8, none⟩) (Nat.le_refl _) _
      have hz3 : (w2.setCell ⟨wr.heap.size, 8, none⟩ (.slice ka' x.kids.length kc')).heap.size = w2.heap.size := by simp
      have hgS : w2.grownBy (w2.setCell ⟨wr.heap.size, 8, none⟩ (.slice ka' x.kids.length kc')) (some wr.heap.size) := ⟨rfl, rfl, rfl, by simp, fun i _ hi => Below.heap_setCell _ _ _ _ (fun e => hi (by rw [e]))⟩
      have hko3 : (w2.setCell ⟨wr.heap.size, 8, none⟩ (.slice ka' x.kids.length kc')).ownsRow (wr.heap.size + 1) 3 1 (.slice ka' x.kids.length kc') x.kids.length (intCells x.kids) := by
        rw [hNz] at hko
        exact ownsRow_unlike hko hgS (T := 33) (by decide) (fun kk hk => by cases hk; exact ⟨_, _, hS2⟩)
      obtain ⟨-, -, -, -, -, -, -, -, e8, e9⟩ := cells_ten hS3
      obtain ⟨-, -, -, -, -, -, -, -, e8', -⟩ := cells_ten hS2
      have hpC := copyPieces_own pa pc x.pieces (by omega) _ ((HPI.out.below (hB3.mono zw)).mono (show _ ≤ (w2.setCell ⟨wr.heap.size, 8, none⟩ (.slice ka' x.kids.length kc')).heap.size by omega))
      have HS3 := Lib.hid hS3
      have HB3 := Lib.hid hB3
      have HKO3 := Lib.hid hko3
      have HZ3 := Lib.hid hz3
      have hPlt : wr.heap.size + 1 ≤ w2.heap.size := by omega
      clear hS2 hB2 hS3 hB3 hgS hko3 hko b2 HN1 HB1 hNz c0 c1 c2 c3 c4 c5 c6 c7 c8 c9
      go_wp2_with fail
      refine hpC.mono ?_
      clear hpC
      rintro e w4 ⟨⟨pv0, rfl, hpo⟩, b4⟩
      obtain ⟨pa', pc', rfl, -⟩ := ownsRow_slice hpo
      have z4 := b4.size
      rw [HZ3.out] at z4
      have hS4 : w4.heap[wr.heap.size]? = some (.cells #[.int .i64 x.kind, .int .i64 x.fr, .int .i64 x.to, .int .i64 x.level, .string x.text, .string x.link, .string x.title, .bool x.tight, .slice ka' x.kids.length kc', .slice pa x.pieces.length pc] 33) := (b4.block _ (by rw [HZ3.out]; omega)).trans HS3.out
      have f9 := frozen_plain hS4 9
      have hB4 := HB3.out.trans (b4.mono (by rw [HZ3.out]; omega))
      have hko4 := ownsRow_below HKO3.out b4
      have hpo4 : w4.ownsRow (wr.heap.size + 1) 36 2 (.slice pa' x.pieces.length pc') x.pieces.length (pieceCells x.pieces) := ownsRow_base' hpo (by rw [HZ3.out]; omega)
      have hS5 := set_pieces (x := .slice pa' x.pieces.length pc') hS4
      have hgS : w4.grownBy (w4.setCell ⟨wr.heap.size, 9, none⟩ (.slice pa' x.pieces.length pc')) (some wr.heap.size) := ⟨rfl, rfl, rfl, by simp, fun i _ hi => Below.heap_setCell _ _ _ _ (fun e => hi (by rw [e]))⟩
      have hB5 : Below wr.heap.size wr (w4.setCell ⟨wr.heap.size, 9, none⟩ (.slice pa' x.pieces.length pc')) := hB4.setCell (p := ⟨wr.heap.size, 9, none⟩) (Nat.le_refl _) _
      have hz5 : (w4.setCell ⟨wr.heap.size, 9, none⟩ (.slice pa' x.pieces.length pc')).heap.size = w4.heap.size := by simp
      have hO5 : NodeOwn (wr.heap.size + 1) (w4.setCell ⟨wr.heap.size, 9, none⟩ (.slice pa' x.pieces.length pc')) ⟨x, .slice ka' x.kids.length kc', .slice pa' x.pieces.length pc'⟩ := ⟨ownsRow_unlike hko4 hgS (T := 33) (by decide) (fun kk hk => by cases hk; exact ⟨_, _, hS4⟩), ownsRow_unlike hpo4 hgS (T := 33) (by decide) (fun kk hk => by cases hk; exact ⟨_, _, hS4⟩)⟩
      obtain ⟨-, -, -, -, -, -, -, -, -, e9'⟩ := cells_ten hS4
      obtain ⟨d0, d1, d2, d3, d4, d5, d6, d7, d8, d9⟩ := cells_ten hS5
      have hp2' : (w4.setCell ⟨wr.heap.size, 9, none⟩ (.slice pa' x.pieces.length pc')).heap[w.heap.size + 1 + 1]? = some (.cells #[v] 24) := (hB5.block _ (Array.getElem?_eq_some_iff.1 hp2).1).trans hp2
      have r2 := cell_only hp2'
      have hR5 := HT.out.later hB5
      have hNew := new_ten (w4.setCell ⟨wr.heap.size, 9, none⟩ (.slice pa' x.pieces.length pc')) 33 ⟨x, .slice ka' x.kids.length kc', .slice pa' x.pieces.length pc'⟩ w4.heap.size hz5.symm
      simp only at hNew
      have hA : Below (w4.setCell ⟨wr.heap.size, 9, none⟩ (.slice pa' x.pieces.length pc')).heap.size (w4.setCell ⟨wr.heap.size, 9, none⟩ (.slice pa' x.pieces.length pc')) ((w4.setCell ⟨wr.heap.size, 9, none⟩ (.slice pa' x.pieces.length pc')).alloc (.cells #[.int .i64 x.kind, .int .i64 x.fr, .int .i64 x.to, .int .i64 x.level, .string x.text, .string x.link, .string x.title, .bool x.tight, .slice ka' x.kids.length kc', .slice pa' x.pieces.length pc'] 33)) := (Below.refl _ _).alloc (Nat.le_refl _) _
      have hR6 := hR5.later hA
      have hO6 := hO5.later hA
      have hB6 : Below wr.heap.size wr ((w4.setCell ⟨wr.heap.size, 9, none⟩ (.slice pa' x.pieces.length pc')).alloc (.cells #[.int .i64 x.kind, .int .i64 x.fr, .int .i64 x.to, .int .i64 x.level, .string x.text, .string x.link, .string x.title, .bool x.tight, .slice ka' x.kids.length kc', .slice pa' x.pieces.length pc'] 33)) := hB5.trans (hA.mono (by omega))
      have hF0 : wr.heap.size + 1 ≤ w4.heap.size := by omega
      have HAP : RowKit.Hid (∀ s ∈ rs, ∀ g, s.kv.ownBlock = some g → (Value.slice ka' x.kids.length kc').ownBlock ≠ some g) := fun s hs g hg e => by
        have h1 := ownBlock_lt (HT.out.own s hs).kids hg
        have h2 := ownBlock_lt hO5.kids e
        omega
      have HOW : RowKit.Hid (NodeOwn w.heap.size ((w4.setCell ⟨wr.heap.size, 9, none⟩ (.slice pa' x.pieces.length pc')).alloc (.cells #[.int .i64 x.kind, .int .i64 x.fr, .int .i64 x.to, .int .i64 x.level, .string x.text, .string x.link, .string x.title, .bool x.tight, .slice ka' x.kids.length kc', .slice pa' x.pieces.length pc'] 33)) ⟨x, .slice ka' x.kids.length kc', .slice pa' x.pieces.length pc'⟩) := hO6.mono (by omega)
      have hP0 : ((w4.setCell ⟨wr.heap.size, 9, none⟩ (.slice pa' x.pieces.length pc')).alloc (.cells #[.int .i64 x.kind, .int .i64 x.fr, .int .i64 x.to, .int .i64 x.level, .string x.text, .string x.link, .string x.title, .bool x.tight, .slice ka' x.kids.length kc', .slice pa' x.pieces.length pc'] 33)).heap[w.heap.size]? = some (.cells #[.slice (some ⟨g, off, none⟩) l.length cap] 24) := (hB6.block _ (Array.getElem?_eq_some_iff.1 hp0).1).trans hp0
      have hP1 : ((w4.setCell ⟨wr.heap.size, 9, none⟩ (.slice pa' x.pieces.length pc')).alloc (.cells #[.int .i64 x.kind, .int .i64 x.fr, .int .i64 x.to, .int .i64 x.level, .string x.text, .string x.link, .string x.title, .bool x.tight, .slice ka' x.kids.length kc', .slice pa' x.pieces.length pc'] 33)).heap[w.heap.size + 1]? = some (.cells #[.slice none 0 0] 24) := (hB6.block _ (Array.getElem?_eq_some_iff.1 hp1).1).trans hp1
      have hP2 : ((w4.setCell ⟨wr.heap.size, 9, none⟩ (.slice pa' x.pieces.length pc')).alloc (.cells #[.int .i64 x.kind, .int .i64 x.fr, .int .i64 x.to, .int .i64 x.level, .string x.text, .string x.link, .string x.title, .bool x.tight, .slice ka' x.kids.length kc', .slice pa' x.pieces.length pc'] 33)).heap[w.heap.size + 1 + 1]? = some (.cells #[v] 24) := (hB6.block _ (Array.getElem?_eq_some_iff.1 hp2).1).trans hp2
      have HBW6 := Lib.hid (HBW.out.trans (hB6.mono zw))
      have HR6 := Lib.hid hR6
      have HP0 := Lib.hid hP0
      have HP1 := Lib.hid hP1
      have HP2 := Lib.hid hP2
      have hRow := hR6.row
      obtain ⟨va, vc, rfl, -⟩ := ownsRow_slice hRow
      have f2 := frozen_plain hP2 0
      have hrl6 : rs.length ≤ 100000 := by omega
      have hwz6 := HBW6.out.size
      clear hB6 hA hO6 hR6 hP0 hP1 hP2 hB5 hO5 hR5 hgS hS5 hS4 hko4 hpo4 hB4 b4 HS3 HB3 HKO3 HT HBW hpo f8 e8 e8' hp2'
      go_wp2_with (at_builtin; (refine wpList_append_own _ rfl _ _ 22 rfl w.heap.size 33 i0 (.agg #[.int .i64 0, .int .i64 0, .int .i64 0, .int .i64 0, .string ⟨#[]⟩, .string ⟨#[]⟩, .string ⟨#[]⟩, .bool false, .slice none 0 0, .slice none 0 0]) 10 136 Tryd.underlying22 hi hz0 hz1 hz2 rfl (by decide) _ _ _ rfl hRow ⟨w4.heap.size, 0, none⟩ 1 1 (nodeC ⟨x, .slice ka' x.kids.length kc', .slice pa' x.pieces.length pc'⟩) rfl rfl hNew (one_ten _ rfl rfl) (by unfold maxLen; omega) (by omega) hwz6 ?_); intro v50 w5 hR5 hg5 _; obtain ⟨a5, c5, rfl, -⟩ := ownsRow_slice hR5; have hty := ownsRow_typed hRow; have hQ2 := block_grown hg5 HP2.out (by decide) hty; have y2 := cell_only hQ2; have yf := frozen_plain hQ2 0)
      have hb6 := HBW6.out
      have HP05 := block_grown hg5 HP0.out (by decide) hty
      have HP15 := block_grown hg5 HP1.out (by decide) hty
      have hT5 : TreeOwn w.heap.size w5 (.slice a5 (rs.length + 1) c5) (rs ++ [⟨x, .slice ka' x.kids.length kc', .slice pa' x.pieces.length pc'⟩]) := HR6.out.snoc HOW.out HAP.out hR5 hg5
      have hB5 := (Below.grown hb6 hg5 hb6.size (fun kk hk => (ownsRow_lt hRow hk).1)).setCell (p := ⟨w.heap.size + 1 + 1, 0, none⟩) (by show w.heap.size ≤ w.heap.size + 1 + 1; omega) (.slice a5 (rs.length + 1) c5)
      have hgE : w5.grownBy (w5.setCell ⟨w.heap.size + 1 + 1, 0, none⟩ (.slice a5 (rs.length + 1) c5)) (some (w.heap.size + 1 + 1)) := ⟨rfl, rfl, rfl, by simp, fun i _ hi => Below.heap_setCell _ _ _ _ (fun e => hi (by rw [e]))⟩
      have hT6 := hT5.unlike hgE (T := 24) (by decide) (by decide) (by decide) (fun kk hk => by cases hk; exact ⟨_, _, hQ2⟩)
      have hQ3 := set_only (x := .slice a5 (rs.length + 1) c5) hQ2
      have k0 : (w5.setCell ⟨w.heap.size + 1 + 1, 0, none⟩ (.slice a5 (rs.length + 1) c5)).heap[w.heap.size]? = some (.cells #[.slice (some ⟨g, off, none⟩) l.length cap] 24) := by
        rw [Below.heap_setCell _ _ _ _ (by show w.heap.size ≠ w.heap.size + 1 + 1; omega)]; exact HP05
      have k1 : (w5.setCell ⟨w.heap.size + 1 + 1, 0, none⟩ (.slice a5 (rs.length + 1) c5)).heap[w.heap.size + 1]? = some (.cells #[.slice none 0 0] 24) := by
        rw [Below.heap_setCell _ _ _ _ (by show w.heap.size + 1 ≠ w.heap.size + 1 + 1; omega)]; exact HP15
      have hrl7 : (rs ++ [(⟨x, .slice ka' x.kids.length kc', .slice pa' x.pieces.length pc'⟩ : NodeV)]).length ≤ k + 1 := by rw [List.length_append, List.length_singleton]; omega
      go_roundw
      case rel => exact ⟨k + 1, _, _, by omega, by go_num, k0, k1, hQ3, hT6, hB5, hrl7, HTK.out _ _⟩
      case measure => simp [RowKit.intOf]; omega
    · obtain rfl : k = l.length := by omega
      rw [List.take_length] at HM
      have HT := Lib.hid hT
      have HBW := Lib.hid hbw
      obtain ⟨va, vc, rfl, -⟩ := ownsRow_slice HT.out.row
      have q1 := cell_only hp1
      have f1 := frozen_plain hp1 0
      clear hT hbw
      go_wp2_with fail
      have hp3 := set_only (x := .slice va rs.length vc) hp1
      have q3 := cell_only hp3
      have hgE : wr.grownBy (wr.setCell ⟨w.heap.size + 1, 0, none⟩ (.slice va rs.length vc)) (some (w.heap.size + 1)) := ⟨rfl, rfl, rfl, by simp, fun i _ hi => Below.heap_setCell _ _ _ _ (fun e => hi (by rw [e]))⟩
      refine bodyPost_ret (v := .agg #[.slice va rs.length vc]) (results_cell_row rfl _ _ (w.heap.size + 1) 24 _ (0, 0) _ rfl hp3 Tryd.underlying24 rfl (by kernel_rfl)) rfl ⟨⟨_, rs, rfl, HT.out.unlike hgE (T := 24) (by decide) (by decide) (by decide) (fun kk hk => by cases hk; exact ⟨_, _, hp1⟩), HM.out⟩, HBW.out.setCell (p := ⟨w.heap.size + 1, 0, none⟩) (by show w.heap.size ≤ w.heap.size + 1; omega) _⟩
end Go.Proofs.YtlebikmiophghaaDoor
