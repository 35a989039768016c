/-
  The reference's Erase: the tree without places. Conditions: bounds on sizes.
-/
import Derived.Test.YtlebikmiophghaaDoorTreeEraseW
set_option linter.unusedSimpArgs false
set_option linter.unusedVariables false
namespace Go.Proofs.YtlebikmiophghaaDoor
open Go.RowKit Go.Lib

set_option maxRecDepth 100000 in
set_option maxHeartbeats 8000000 in
theorem refErase_any (a : Option Addr) (cap : Nat) (l : List NodeP) (hl : l.length ≤ 100000) (hk : ∀ x ∈ l, x.kids.length ≤ 100000 ∧ x.pieces.length ≤ 100000) (w : World) (hI : NodesIn w.heap.size w (.slice a l.length cap) l) :
    Calls Tryd.prog 33 #[.agg #[.slice a l.length cap]] w fun e w' => (∃ a' c', e = .returned (.agg #[.slice a' l.length c']) ∧ NodesIn w'.heap.size w' (.slice a' l.length c') (l.map eraseN)) ∧ Below w.heap.size w w' := by
  have mixed : Tryd.prog.follows Departure.mixedOrders = true := rfl
  have hB1 : Below w.heap.size w (w.alloc (.cells #[.slice a l.length cap] 24)) := (Below.refl _ w).alloc (Nat.le_refl _) _
  have hB2 : Below w.heap.size w ((w.alloc (.cells #[.slice a l.length cap] 24)).alloc (.cells #[.slice none 0 0] 24)) := hB1.alloc hB1.size _
  have hC := copyTree_own a cap l hl hk _ (hI.later hB2)
  have hz2 : ((w.alloc (.cells #[.slice a l.length cap] 24)).alloc (.cells #[.slice none 0 0] 24)).heap.size = w.heap.size + 1 + 1 := by simp
  have HR : RowKit.Hid (((w.alloc (.cells #[.slice a l.length cap] 24)).alloc (.cells #[.slice none 0 0] 24)).heap[w.heap.size + 1]? = some (.cells #[.slice none 0 0] 24)) := by
    have := heap_alloc_new (w.alloc (.cells #[.slice a l.length cap] 24)) (.cells #[.slice none 0 0] 24)
    show _ = _
    simpa using this
  have HB2 := Lib.hid hB2
  have HZ2 := Lib.hid hz2
  clear hI hB1 hB2 hz2 hk
  go_enter Tryd.func33, Tryd.ntmps33
  go_wp2_with fail
  refine hC.mono ?_
  clear hC
  rintro e w1 ⟨⟨v, rs0, rfl, hT0, hM0⟩, b1⟩
  have hrl : rs0.length = l.length := by rw [← hM0]; simp
  obtain ⟨va, vc, rfl, -⟩ := ownsRow_slice hT0.row
  rw [hrl]
  rw [hrl] at hT0
  have HM0 := Lib.hid hM0
  have HT0 := Lib.hid hT0
  have HB3 := Lib.hid (HB2.out.trans (b1.mono HB2.out.size))
  have hz1 := b1.size
  have HR1 := Lib.hid ((b1.block _ (by rw [HZ2.out]; omega)).trans HR.out)
  rw [HZ2.out] at hz1
  have HN : RowKit.Hid (w.heap.size ≤ ((w.alloc (.cells #[.slice a l.length cap] 24)).alloc (.cells #[.slice none 0 0] 24)).heap.size) := HB2.out.size
  have hA : Below w1.heap.size w1 (w1.alloc (.cells #[.slice va l.length vc] 24)) := (Below.refl _ w1).alloc (Nat.le_refl _) _
  have HBX := Lib.hid (heap_alloc_new w1 (.cells #[.slice va l.length vc] 24))
  have HR2 := Lib.hid ((hA.block _ (Array.getElem?_eq_some_iff.1 HR1.out).1).trans HR1.out)
  have HT1 := Lib.hid (HT0.out.later hA)
  have HB4 := Lib.hid (HB3.out.trans (hA.mono HB3.out.size))
  generalize hNN : ((w.alloc (.cells #[.slice a l.length cap] 24)).alloc (.cells #[.slice none 0 0] 24)).heap.size = N at *
  clear hrl hM0 hT0 b1 hA HT0 HB3 HR1 HR HZ2 HB2 hNN
  go_wp2_with fail
  generalize w1.alloc (.cells #[.slice va l.length vc] 24) = w2 at *
  go_loopw [4] (fun iv wr => ∃ (k : Nat) (rs : List NodeV), k ≤ l.length ∧ iv = .int .i64 k ∧ wr.heap[w.heap.size + 1]? = some (.cells #[.slice none 0 0] 24) ∧ wr.heap[w1.heap.size]? = some (.cells #[.slice va l.length vc] 24) ∧ TreeOwn N wr (.slice va l.length vc) rs ∧ Below w.heap.size w wr ∧ rs.length = l.length ∧ RowKit.Hid (rs.map NodeV.n = (l.take k).map eraseN ++ l.drop k)) (fun iv _ => l.length - (RowKit.intOf iv).toNat)
  case atStart => exact ⟨0, rs0, Nat.zero_le _, rfl, HR2.out, HBX.out, HT1.out, HB4.out, by rw [← HM0.out]; simp, by show _ = _; rw [HM0.out]; rfl⟩
  case round =>
    obtain ⟨k, rs, hk, rfl, hp1, hp2, hTr, hbw, hrl, HM⟩ := hrel
    have q2 := cell_only hp2
    have HT := Lib.hid hTr
    have HBW := Lib.hid hbw
    have HRL := Lib.hid hrl
    have HP1 := Lib.hid hp1
    have HP2 := Lib.hid hp2
    clear hTr hbw hrl hp1 hp2
    by_cases hlt : k < l.length
    · have hlt' : (k : Int) < (l.length : Int) := by omega
      have hkr : k < rs.length := by rw [HRL.out]; exact hlt
      have hrow := HT.out.row
      rw [HRL.out] at hrow
      obtain ⟨g, cp, he, -⟩ := someRow (by omega) hrow
      injection he with he1 he2 he3
      subst he1 he3
      have HE := Lib.hid (erased_any HT.out HP2.out hkr)
      have HMS := Lib.hid (erase_map_step HM.out hlt hkr rs[k].kv (.slice none 0 0))
      generalize rs[k] = r at *
      have c1 := HE.out.c1
      have f1 := HE.out.f1
      have b1 := HE.out.b1
      have c2 := HE.out.c2
      have f2 := HE.out.f2
      have b2 := HE.out.b2
      have c3 := HE.out.c3
      have f3 := HE.out.f3
      clear hrow hkr
      go_wp2_with fail
      have hB9 := ((HBW.out.setCell (p := ⟨g, k * 10 + 1, none⟩) (Nat.le_trans HN.out HE.out.lt) (.int .i64 0)).setCell (p := ⟨g, k * 10 + 2, none⟩) (Nat.le_trans HN.out HE.out.lt) (.int .i64 0)).setCell (p := ⟨g, k * 10 + 9, none⟩) (Nat.le_trans HN.out HE.out.lt) (.slice none 0 0)
      have hP1 := HE.out.keep _ _ _ HP1.out
      have hP2 := HE.out.keep _ _ _ HP2.out
      go_roundw
      case rel => exact ⟨k + 1, _, by omega, by go_num, hP1, hP2, HE.out.own, hB9, by rw [List.length_set]; exact HRL.out, HMS.out⟩
      case measure => simp [RowKit.intOf]; omega
    · obtain rfl : k = l.length := by omega
      have hM : rs.map NodeV.n = l.map eraseN := by rw [HM.out, List.take_length, List.drop_length, List.append_nil]
      have hlt' : ¬ (l.length : Int) < (l.length : Int) := by omega
      have q1 := cell_only HP1.out
      have f1 := frozen_plain HP1.out 0
      have HMM := Lib.hid hM
      clear hM
      go_wp2_with fail
      have hp3 := set_only (x := .slice va l.length vc) HP1.out
      have q3 := cell_only hp3
      have hgE := grown_set wr (w.heap.size + 1) 0 (.slice va l.length vc)
      have hT9 := HT.out.unlike hgE (T := 24) (by decide) (by decide) (by decide) (fun kk hk => by cases hk; exact ⟨_, _, HP1.out⟩)
      have hn := hT9.nodes
      rw [HMM.out] at hn
      refine bodyPost_ret (v := .agg #[.slice va l.length vc]) (results_cell_row rfl _ _ (w.heap.size + 1) 24 _ (0, 0) _ rfl hp3 Tryd.underlying24 rfl (by kernel_rfl)) rfl ⟨⟨va, vc, rfl, hn⟩, HBW.out.setCell (p := ⟨w.heap.size + 1, 0, none⟩) (by show w.heap.size ≤ w.heap.size + 1; omega) _⟩
end Go.Proofs.YtlebikmiophghaaDoor
