/-
  alive: it returns true; SameInts. Conditions: the table of powers of ten.
-/
import Derived.Test.YtlebikmiophghaaDoorTreeSmall
import Derived.Test.YtlebikmiophghaaDoorTreeErase
import Derived.BigQuiet
set_option linter.unusedSimpArgs false
set_option linter.unusedVariables false
namespace Go.Proofs.YtlebikmiophghaaDoor
open Go.Shelf Go.RowKit Go.Lib

set_option maxHeartbeats 2000000 in
set_option maxRecDepth 100000 in
theorem sameInts_tree (a1 a2 : Option Addr) (c1 c2 : Nat) (l : List Int) (hl : l.length ≤ 1000000) (w : World) (h1 : IntsIn w.heap.size w (.slice a1 l.length c1) l) (h2 : IntsIn w.heap.size w (.slice a2 l.length c2) l) :
    Calls Tryd.prog 25 #[.slice a1 l.length c1, .slice a2 l.length c2] w fun e w' => e = .returned (.bool true) ∧ ∃ q, w' = w.drewN q := by
  have H1 := Lib.hid h1
  have H2 := Lib.hid h2
  have mixed : Tryd.prog.follows Departure.mixedOrders = true := rfl
  clear h1 h2
  go_enter Tryd.func25, Tryd.ntmps25
  go_wp2
  go_loopw [5] (fun iv wr => ∃ k q : Nat, k ≤ l.length ∧ iv = .int .i64 k ∧ wr = w.drewN q) (fun iv _ => l.length - (RowKit.intOf iv).toNat)
  case atStart => exact ⟨0, 0, Nat.zero_le _, rfl, rfl⟩
  case round =>
    obtain ⟨k, q, hk, rfl, rfl⟩ := hrel
    by_cases hlt : k < l.length
    · have hlt' : (k : Int) < (l.length : Int) := by omega
      obtain ⟨g, off, rfl, hg, -, hc⟩ := H1.out.at hlt
      obtain ⟨g2, off2, rfl, hg2, -, hc2⟩ := H2.out.at hlt
      have c0 := hc k hlt
      have d0 := hc2 k hlt
      clear hc hc2
      generalize l[k] = e at *
      go_wp2_with fail
      go_quiet (fail)
      go_wp2_with fail
      go_roundw
      case rel => exact ⟨k + 1, q + nq, by omega, by go_num, rfl⟩
      case measure => simp [RowKit.intOf]; omega
    · obtain rfl : k = l.length := by omega
      go_wp2
      go_ret
      exact ⟨rfl, q, rfl⟩

theorem small_right : parentsP (smallN 2) = some [-1, 0, 1] := by decide +kernel
theorem small_wrong : parentsP (smallN 1) = none := by decide +kernel
theorem small_show : showL (smallN 2) [-1, 0, 1] = [100, 111, 99, 10, 32, 112, 97, 114, 97, 10, 32, 32, 116, 101, 120, 116, 32, 116, 34, 97, 34, 10] := by decide +kernel
theorem small_ok (k : Int) : ∀ x ∈ smallN k, NodeOk x := by
  intro x hx
  simp only [smallN, List.mem_cons, List.mem_nil_iff, or_false] at hx
  have e0 : (⟨#[]⟩ : ByteArray).size ≤ 140737488355328 := by decide
  have e1 : (⟨#[97]⟩ : ByteArray).size ≤ 140737488355328 := by decide
  rcases hx with rfl | rfl | rfl
  · exact ⟨e0, e0, e0, by simp, by simp, by simp, by simp⟩
  · exact ⟨e0, e0, e0, by simp, by simp, by simp, by simp⟩
  · exact ⟨e1, e0, e0, by simp, by simp, by simp, by simp⟩
theorem small_small (k : Int) : ∀ x ∈ smallN k, SmallN x := by
  intro x hx
  simp only [smallN, List.mem_cons, List.mem_nil_iff, or_false] at hx
  have e0 : (⟨#[]⟩ : ByteArray).size ≤ 1000000 := by decide
  have e1 : (⟨#[97]⟩ : ByteArray).size ≤ 1000000 := by decide
  rcases hx with rfl | rfl | rfl
  · exact ⟨e0, e0, e0, by simp, by simp⟩
  · exact ⟨e0, e0, e0, by simp, by simp⟩
  · exact ⟨e1, e0, e0, by simp, by simp⟩
theorem small_kids (k : Int) : ∀ x ∈ smallN k, x.kids.length ≤ 100000 := by
  intro x hx
  simp only [smallN, List.mem_cons, List.mem_nil_iff, or_false] at hx
  rcases hx with rfl | rfl | rfl <;> simp

/-- Small, as a tree. -/
theorem small_tree (w : World) : Calls Tryd.prog 34 #[] w fun e w' => (∃ L, e = .returned (.agg #[.slice (some ⟨L, 0, none⟩) 3 3]) ∧ NodesIn w'.heap.size w' (.slice (some ⟨L, 0, none⟩) 3 3) (smallN 2)) ∧ Below w.heap.size w w' :=
  (small_any w).mono fun e w' ⟨h1, ⟨h2, h3, h4⟩, h5⟩ => ⟨⟨_, h1, small_nodes h2 h3 h4⟩, h5⟩
theorem small_showC (L : Nat) (w : World) (hT : PowT w) (h : NodesIn w.heap.size w (.slice (some ⟨L, 0, none⟩) 3 3) (smallN 2)) : Calls Tryd.prog 17 #[.agg #[.slice (some ⟨L, 0, none⟩) 3 3], .bool false] w fun e w' => e = .returned (.tuple #[.string ⟨#[100, 111, 99, 10, 32, 112, 97, 114, 97, 10, 32, 32, 116, 101, 120, 116, 32, 116, 34, 97, 34, 10]⟩, .int .i64 0]) ∧ Below w.heap.size w w' := by
  have := show_some (some ⟨L, 0, none⟩) 3 (smallN 2) _ small_right (by decide) (small_ok 2) (small_small 2) w hT h
  rw [small_show] at this
  exact this
theorem small_rightC (L : Nat) (w : World) (h : NodesIn w.heap.size w (.slice (some ⟨L, 0, none⟩) 3 3) (smallN 2)) : Calls Tryd.prog 14 #[.agg #[.slice (some ⟨L, 0, none⟩) 3 3]] w fun e w' => e = .returned (.bool true) ∧ Below w.heap.size w w' := by
  have := right_any (some ⟨L, 0, none⟩) 3 (smallN 2) (by decide) (small_ok 2) w h
  rw [small_right] at this
  exact this
theorem small_wrongC (L : Nat) (w : World) (h : NodesIn w.heap.size w (.slice (some ⟨L, 0, none⟩) 3 3) (smallN 1)) : Calls Tryd.prog 14 #[.agg #[.slice (some ⟨L, 0, none⟩) 3 3]] w fun e w' => e = .returned (.bool false) ∧ Below w.heap.size w w' := by
  have := right_any (some ⟨L, 0, none⟩) 3 (smallN 1) (by decide) (small_ok 1) w h
  rw [small_wrong] at this
  exact this
theorem small_parentsC (L : Nat) (w : World) (h : NodesIn w.heap.size w (.slice (some ⟨L, 0, none⟩) 3 3) (smallN 2)) : Calls Tryd.prog 16 #[.agg #[.slice (some ⟨L, 0, none⟩) 3 3]] w fun e w' => (∃ a' c', e = .returned (.slice a' 3 c') ∧ IntsIn w'.heap.size w' (.slice a' 3 c') [-1, 0, 1]) ∧ Below w.heap.size w w' :=
  treeParents_any (some ⟨L, 0, none⟩) 3 (smallN 2) _ small_right (by decide) (small_ok 2) w h
theorem small_eraseC (L : Nat) (w : World) (h : NodesIn w.heap.size w (.slice (some ⟨L, 0, none⟩) 3 3) (smallN 2)) : Calls Tryd.prog 31 #[.agg #[.slice (some ⟨L, 0, none⟩) 3 3]] w fun e w' => (∃ g c, e = .returned (.agg #[.slice (some ⟨g, 0, none⟩) 3 c]) ∧ w'.cell? ⟨g, 22, none⟩ = some (.int .i64 0)) ∧ Below w.heap.size w w' := by
  refine (erase_any (some ⟨L, 0, none⟩) 3 (smallN 2) (by decide) (small_kids 2) w h).mono ?_
  rintro e w' ⟨⟨v, rs, rfl, hT, hM⟩, b⟩
  have hl : rs.length = 3 := by have := congrArg List.length hM; simpa [smallN] using this
  have hr := hT.row
  have hn := hT.nodes
  rw [hM] at hn
  rw [hl] at hr
  obtain ⟨g, c, rfl, -⟩ := someRow (by decide) hr
  have := (NodesIn.at (l := (smallN 2).map eraseN) hn (k := 2) (by decide))
  obtain ⟨g', off, e1, -, -, hc⟩ := this
  injection e1 with e1
  injection e1 with e1 e2
  subst e1 e2
  exact ⟨⟨_, _, rfl, (hc 2 (by decide)).to⟩, b⟩

theorem tree_field (X : World) (g c : Nat) : Sem.run Tryd.prog (Instr.field 24 (.agg #[.slice (some ⟨g, 0, none⟩) 3 c]) 0) X = .ok (.slice (some ⟨g, 0, none⟩) 3 c) X := by kernel_rfl
set_option maxRecDepth 100000 in
set_option maxHeartbeats 8000000 in
theorem treeAlive_any (w : World) (hT : PowT w) : Calls Tryd.prog 12 #[] w fun e w' => e = .returned (.bool true) ∧ Below w.heap.size w w' := by
  have HT := Lib.hid hT
  clear hT
  go_enter Tryd.func12, Tryd.ntmps12
  go_wp2_with fail
  refine (small_tree w).mono ?_
  rintro e w1 ⟨⟨L1, rfl, hn1⟩, b1⟩
  go_wp2_with fail
  refine (small_showC L1 w1 (HT.out.below b1) hn1).mono ?_
  rintro e w2 ⟨rfl, b2⟩
  have HB2 := Lib.hid (b1.trans (b2.mono b1.size))
  clear hn1 b1 b2
  go_wp2_with fail
  refine (small_any w2).mono ?_
  rintro e w3 ⟨rfl, ⟨k3, k1, k2⟩, b3⟩
  have HB3 := Lib.hid (HB2.out.trans (b3.mono HB2.out.size))
  have hz3 : w2.heap.size + 1 + 1 + 1 < w3.heap.size := (Array.getElem?_eq_some_iff.1 k3).1
  have hA : Below w3.heap.size w3 (w3.alloc (.cells #[.slice (some ⟨w2.heap.size + 1 + 1 + 1, 0, none⟩) 3 3] 24)) := (Below.refl _ w3).alloc (Nat.le_refl _) _
  have q3 := (hA.block _ hz3).trans k3
  have q2 := (hA.block _ (by omega)).trans k2
  have q1 := (hA.block _ (by omega)).trans k1
  have qt := heap_alloc_new w3 (.cells #[.slice (some ⟨w2.heap.size + 1 + 1 + 1, 0, none⟩) 3 3] 24)
  have HB4 := Lib.hid (HB3.out.trans (hA.mono HB3.out.size))
  have hc18 : (w3.alloc (.cells #[.slice (some ⟨w2.heap.size + 1 + 1 + 1, 0, none⟩) 3 3] 24)).cell? ⟨w2.heap.size + 1 + 1 + 1, 18, none⟩ = some (.slice (some ⟨w2.heap.size + 1 + 1, 0, none⟩) 1 1) := by
    simp only [World.cell?, q3]; rfl
  have hk2 := cell_only q2
  have fk2 := frozen_plain q2 0
  have HQ1 := Lib.hid q1
  have HQ2 := Lib.hid q2
  have HQ3 := Lib.hid q3
  have HQT := Lib.hid qt
  have HZ4 : RowKit.Hid (w2.heap.size + 1 + 1 + 1 < w3.heap.size) := hz3
  have HB2z : RowKit.Hid (w.heap.size ≤ w2.heap.size) := HB2.out.size
  clear k1 k2 k3 b3 hA q1 q2 q3 qt HB3
  go_upto_region 4 with fail
  have s2 := set_only (x := .int .i64 1) HQ2.out
  have s1 : ((w3.alloc (.cells #[.slice (some ⟨w2.heap.size + 1 + 1 + 1, 0, none⟩) 3 3] 24)).setCell ⟨w2.heap.size + 1 + 1, 0, none⟩ (.int .i64 1)).heap[w2.heap.size + 1]? = some (.cells #[.int .i64 1] 3) := by
    rw [Below.heap_setCell _ _ _ _ (by show w2.heap.size + 1 ≠ w2.heap.size + 1 + 1; omega)]; exact HQ1.out
  have s3 : ((w3.alloc (.cells #[.slice (some ⟨w2.heap.size + 1 + 1 + 1, 0, none⟩) 3 3] 24)).setCell ⟨w2.heap.size + 1 + 1, 0, none⟩ (.int .i64 1)).heap[w2.heap.size + 1 + 1 + 1]? = some (.cells (smallC (w2.heap.size + 1) (w2.heap.size + 1 + 1)) 33) := by
    rw [Below.heap_setCell _ _ _ _ (by show w2.heap.size + 1 + 1 + 1 ≠ w2.heap.size + 1 + 1; omega)]; exact HQ3.out
  have st : ((w3.alloc (.cells #[.slice (some ⟨w2.heap.size + 1 + 1 + 1, 0, none⟩) 3 3] 24)).setCell ⟨w2.heap.size + 1 + 1, 0, none⟩ (.int .i64 1)).heap[w3.heap.size]? = some (.cells #[.slice (some ⟨w2.heap.size + 1 + 1 + 1, 0, none⟩) 3 3] 24) := by
    rw [Below.heap_setCell _ _ _ _ (by show w3.heap.size ≠ w2.heap.size + 1 + 1; have := HZ4.out; omega)]; exact HQT.out
  have HB5 : RowKit.Hid (Below w.heap.size w ((w3.alloc (.cells #[.slice (some ⟨w2.heap.size + 1 + 1 + 1, 0, none⟩) 3 3] 24)).setCell ⟨w2.heap.size + 1 + 1, 0, none⟩ (.int .i64 1))) := HB4.out.setCell (p := ⟨w2.heap.size + 1 + 1, 0, none⟩) (by have := HB2z.out; show w.heap.size ≤ w2.heap.size + 1 + 1; omega) _
  have HN5 := Lib.hid (small_nodes s3 s1 s2)
  have HST := Lib.hid st
  clear s1 s2 s3 st HQ1 HQ2 HQ3 HQT HB4 hc18 hk2 fk2
  generalize (w3.alloc (.cells #[.slice (some ⟨w2.heap.size + 1 + 1 + 1, 0, none⟩) 3 3] 24)).setCell ⟨w2.heap.size + 1 + 1, 0, none⟩ (.int .i64 1) = w5 at *
  go_wp2_with fail
  refine (small_tree w5).mono ?_
  rintro e w6 ⟨⟨L6, rfl, hn6⟩, b6⟩
  go_wp2_with fail
  refine (small_rightC L6 w6 hn6).mono ?_
  rintro e w7 ⟨rfl, b7⟩
  have b57 := b6.trans (b7.mono b6.size)
  have HN7 := HN5.out.later b57
  have c7 := cell_only ((b57.block _ (Array.getElem?_eq_some_iff.1 HST.out).1).trans HST.out)
  clear hn6 b6 b7
  go_wp2_with fail
  refine (small_wrongC _ w7 HN7).mono ?_
  rintro e w8 ⟨rfl, b8⟩
  have b58 := b57.trans (b8.mono b57.size)
  clear b57 b8 HN7 c7
  go_wp2_with fail
  refine (small_tree w8).mono ?_
  rintro e w9 ⟨⟨L9, rfl, hn9⟩, b9⟩
  have b59 := b58.trans (b9.mono b58.size)
  clear b58 b9
  go_wp2_with fail
  refine (small_parentsC L9 w9 hn9).mono ?_
  rintro e w10 ⟨⟨a10, c10, rfl, hi10⟩, b10⟩
  have b510 := b59.trans (b10.mono b59.size)
  clear b59 b10 hn9
  have hA10 : Below w10.heap.size w10 (w10.alloc (.cells #[.int .i64 (-1), .int .i64 0, .int .i64 1] 3)) := (Below.refl _ w10).alloc (Nat.le_refl _) _
  have hi11 : IntsIn (w10.alloc (.cells #[.int .i64 (-1), .int .i64 0, .int .i64 1] 3)).heap.size (w10.alloc (.cells #[.int .i64 (-1), .int .i64 0, .int .i64 1] 3)) (.slice (some ⟨w10.heap.size, 0, none⟩) 3 3) [-1, 0, 1] := intsIn_of_owns (base := w10.heap.size) (l := [-1, 0, 1]) ⟨rfl, .inr ⟨w10.heap.size, 3, _, rfl, Nat.le_refl _, heap_alloc_new w10 _, Nat.le_refl _, by unfold maxLen; decide, rfl, rfl⟩⟩
  have hS := sameInts_tree a10 (some ⟨w10.heap.size, 0, none⟩) c10 3 [-1, 0, 1] (by decide) _ (hi10.later hA10) hi11
  have HB11 := Lib.hid (b510.trans (hA10.mono b510.size))
  have hS' : Calls Tryd.prog 25 #[.slice a10 3 c10, .slice (some ⟨w10.heap.size, 0, none⟩) 3 3] (w10.alloc (.cells #[.int .i64 (-1), .int .i64 0, .int .i64 1] 3)) fun e w' => e = .returned (.bool true) ∧ ∃ q, w' = (w10.alloc (.cells #[.int .i64 (-1), .int .i64 0, .int .i64 1] 3)).drewN q := hS
  clear hi10 hi11 hS hA10 b510
  go_wp2_with fail
  refine hS'.mono ?_
  rintro e w12 ⟨rfl, q12, rfl⟩
  have HB12 := Lib.hid (below_drewN (n := q12) HB11.out)
  clear hS' HB11
  generalize (w10.alloc (.cells #[.int .i64 (-1), .int .i64 0, .int .i64 1] 3)).drewN q12 = w12 at *
  go_wp2_with fail
  refine (small_tree w12).mono ?_
  rintro e w13 ⟨⟨L13, rfl, hn13⟩, b13⟩
  have HB13 := Lib.hid (HB12.out.trans (b13.mono HB12.out.size))
  clear b13 HB12
  go_wp2_with fail
  refine (small_eraseC L13 w13 hn13).mono ?_
  rintro e w14 ⟨⟨g14, c14, rfl, hc14⟩, b14⟩
  have HB14 := Lib.hid (HB5.out.trans ((HB13.out.trans (b14.mono HB13.out.size)).mono HB5.out.size))
  clear hn13 b14 HB13
  have hfld := tree_field w14 g14 c14
  go_wp2_with fail
  go_ret
  exact ⟨rfl, HB14.out⟩
end Go.Proofs.YtlebikmiophghaaDoor
