/-
  SameTree at two trees that hold the same. Conditions: none.
-/
import Derived.Test.YtlebikmiophghaaDoorTreeSame
set_option linter.unusedSimpArgs false
set_option linter.unusedVariables false
namespace Go.Proofs.YtlebikmiophghaaDoor
open Go.Shelf Go.RowKit Go.Lib

set_option maxHeartbeats 4000000 in
set_option maxRecDepth 100000 in
theorem sameTree_tree (a b : Option Addr) (c1 c2 : Nat) (l : List NodeP) (hl : l.length ≤ 1000000) (hk : ∀ x ∈ l, x.kids.length ≤ 1000000 ∧ x.pieces.length ≤ 1000000) (w : World) (h1 : NodesIn w.heap.size w (.slice a l.length c1) l) (h2 : NodesIn w.heap.size w (.slice b l.length c2) l) :
    Calls Tryd.prog 32 #[.agg #[.slice a l.length c1], .agg #[.slice b l.length c2], .bool true] w fun e w' => e = .returned (.bool true) ∧ Below w.heap.size w w' := by
  have mixed : Tryd.prog.follows Departure.mixedOrders = true := rfl
  have hB1 : Below w.heap.size w (w.alloc (.cells #[.slice a l.length c1] 24)) := (Below.refl _ w).alloc (Nat.le_refl _) _
  have hB2 : Below w.heap.size w ((w.alloc (.cells #[.slice a l.length c1] 24)).alloc (.cells #[.slice b l.length c2] 24)) := hB1.alloc hB1.size _
  have hA2 : Below (w.alloc (.cells #[.slice a l.length c1] 24)).heap.size (w.alloc (.cells #[.slice a l.length c1] 24)) ((w.alloc (.cells #[.slice a l.length c1] 24)).alloc (.cells #[.slice b l.length c2] 24)) := (Below.refl _ _).alloc (Nat.le_refl _) _
  have hN1 := (hA2.block w.heap.size (by simp)).trans (heap_alloc_new w (.cells #[.slice a l.length c1] 24))
  have hN2 := heap_alloc_new (w.alloc (.cells #[.slice a l.length c1] 24)) (.cells #[.slice b l.length c2] 24)
  rw [show (w.alloc (.cells #[.slice a l.length c1] 24)).heap.size = w.heap.size + 1 by simp] at hN2
  have HK := Lib.hid hk
  have H1 := Lib.hid (h1.later hB2)
  have H2 := Lib.hid (h2.later hB2)
  have HN1 := Lib.hid hN1
  have HN2 := Lib.hid hN2
  have HB := Lib.hid hB2
  have hx1 := cell_only hN1
  have hx2 := cell_only hN2
  clear hk h1 h2 hN1 hN2 hB1 hB2 hA2
  go_enter Tryd.func32, Tryd.ntmps32
  go_upto_region 3 with fail
  generalize ((w.alloc (.cells #[.slice a l.length c1] 24)).alloc (.cells #[.slice b l.length c2] 24)) = w2 at *
  go_wp2_with fail
  go_loopw [7] (fun iv wr => ∃ k : Nat, k ≤ l.length ∧ iv = .int .i64 k ∧ Below w2.heap.size w2 wr) (fun iv _ => l.length - (RowKit.intOf iv).toNat)
  case atStart => exact ⟨0, Nat.zero_le _, rfl, Below.refl _ _⟩
  case round =>
    obtain ⟨k, hk, rfl, hb⟩ := hrel
    have y1 := cell_only ((hb.block _ (Array.getElem?_eq_some_iff.1 HN1.out).1).trans HN1.out)
    have y2 := cell_only ((hb.block _ (Array.getElem?_eq_some_iff.1 HN2.out).1).trans HN2.out)
    by_cases hlt : k < l.length
    · have hlt' : (k : Int) < (l.length : Int) := by omega
      have hk0 : (0 : Int) ≤ (k : Int) := by omega
      obtain ⟨g, off, rfl, -, -, hc⟩ := (H1.out.below hb).at hlt
      obtain ⟨g2, off2, rfl, -, -, hc2⟩ := (H2.out.below hb).at hlt
      obtain ⟨d0, d1, d2, d3, d4, d5, d6, d7, ⟨ka, kc, d8, dK⟩, ⟨pa, pc, d9, dP⟩⟩ := hc k hlt
      obtain ⟨e0, e1, e2, e3, e4, e5, e6, e7, ⟨ka2, kc2, e8, eK⟩, ⟨pa2, pc2, e9, eP⟩⟩ := hc2 k hlt
      have HSN := Lib.hid (fun (X : World) (h : Below wr.heap.size wr X) => sameNode_tree l[k] ka ka2 pa pa2 kc pc kc2 pc2 (HK.out _ (List.getElem_mem hlt)).1 (HK.out _ (List.getElem_mem hlt)).2 X ((dK.mono hb.size).later h) ((eK.mono hb.size).later h) ((dP.mono hb.size).later h) ((eP.mono hb.size).later h))
      have HB2 := Lib.hid hb
      have hD : Below wr.heap.size wr wr.drew := (Below.refl _ wr).drew
      clear hc hc2 dK dP eK eP hb
      generalize l[k] = x at *
      go_wp2_with fail
      go_region_with (first | (go_at_call 52; (with_reducible refine (HSN.out _ hD).mono ?_); rintro e w8 ⟨rfl, b8⟩))
      all_goals
        go_wp2_with fail
        go_roundw
        case rel => exact ⟨k + 1, by omega, by go_num, HB2.out.trans ((hD.trans (b8.mono hD.size)).mono HB2.out.size)⟩
        case measure => simp [RowKit.intOf]; omega
    · obtain rfl : k = l.length := by omega
      have hlt' : ¬ (l.length : Int) < (l.length : Int) := by omega
      go_wp2_with fail
      go_ret
      exact ⟨rfl, HB.out.trans (hb.mono HB.out.size)⟩
end Go.Proofs.YtlebikmiophghaaDoor
