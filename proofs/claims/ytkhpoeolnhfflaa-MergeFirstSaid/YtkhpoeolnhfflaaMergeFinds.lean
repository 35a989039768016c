/-
  CopyInts, SameInts, CopyFindings, SameFindings, SameEdits (quiet). Conditions: at most 1000000 of each.
-/
import Derived.Test.YtkhpoeolnhfflaaMergeRow
import Derived.Test.YtkhpoeolnhfflaaRefApply
set_option linter.unusedSimpArgs false
set_option linter.unusedVariables false
namespace Go.Proofs.Ytkhpoeolnhfflaa
open Go.Shelf Go.RowKit Go.Lib Go.Sort

theorem EditsIn.later0 {w w' : World} {v : Value} {l : List EditP} (h : EditsIn w.heap.size w v l) (hb : Below w.heap.size w w') : EditsIn w'.heap.size w' v l := (h.below hb).mono hb.size

set_option maxRecDepth 100000 in
set_option maxHeartbeats 4000000 in
theorem copyInts_any (a : Option Addr) (cap : Nat) (l : List Int) (hl : l.length ≤ 1000000) (w : World) (hI : IntsIn w.heap.size w (.slice a l.length cap) l) :
    Calls Try.prog 22 #[.slice a l.length cap] w fun e w' => (∃ a' cap', e = .returned (.slice a' l.length cap') ∧ IntsIn w'.heap.size w' (.slice a' l.length cap') l) ∧ Below w.heap.size w w' := by
  have hN : Below w.heap.size w (w.alloc (.cells #[] 3)) := (Below.refl _ w).alloc (Nat.le_refl _) _
  have hown : (w.alloc (.cells #[] 3)).ownsRow w.heap.size 3 1 (.slice (some ⟨w.heap.size, 0, none⟩) 0 0) ([] : List Int).length (intCells []) := ⟨rfl, .inr ⟨w.heap.size, 0, #[], rfl, Nat.le_refl _, heap_alloc_new w _, Nat.le_refl _, by decide, rfl, rfl⟩⟩
  have hI1 := hI.below hN
  clear hI
  go_enter Try.func22, Try.ntmps22
  go_wp2_with (at_builtin; (refine wpList_append_ints rfl _ _ rfl w.heap.size _ [] rfl hown a l cap rfl hI1 (by simp) hl (by simp) ?_); intro v' w4 hown' hgrow; rw [List.nil_append] at hown'; obtain ⟨a', cap', rfl, -⟩ := ownsRow_slice hown')
  go_ret
  exact ⟨⟨_, _, rfl, intsIn_of_owns hown'⟩, hN.grown hgrow (by simp) (fun kk hk => (ownsRow_lt hown hk).1)⟩

set_option maxHeartbeats 2000000 in
set_option maxRecDepth 100000 in
theorem sameInts_any (a1 a2 : Option Addr) (c1 c2 : Nat) (l : List Int) (hl : l.length ≤ 1000000) (w : World) (h1 : IntsIn w.heap.size w (.slice a1 l.length c1) l) (h2 : IntsIn w.heap.size w (.slice a2 l.length c2) l) :
    Calls Try.prog 16 #[.slice a1 l.length c1, .slice a2 l.length c2] w fun e w' => e = .returned (.bool true) ∧ ∃ q, w' = w.drewN q := by
  have H1 := Lib.hid h1
  have H2 := Lib.hid h2
  have mixed : Try.prog.follows Departure.mixedOrders = true := rfl
  clear h1 h2
  go_enter Try.func16, Try.ntmps16
  go_wp2
  go_loopw [5] (fun iv wr => ∃ k q : Nat, k ≤ l.length ∧ iv = .int .i64 k ∧ wr = w.drewN q) (fun iv _ => l.length - (RowKit.intOf iv).toNat)
  case atStart => exact ⟨0, 0, Nat.zero_le _, rfl, rfl⟩
  case round =>
    obtain ⟨k, q, hk, rfl, rfl⟩ := hrel
    by_cases hlt : k < l.length
    · have hlt' : (k : Int) < (l.length : Int) := by omega
      obtain ⟨g, off, rfl, hg, -, hc⟩ := H1.out.at hlt
      obtain ⟨g2, off2, rfl, hg2, -, hc2⟩ := H2.out.at hlt
      have c0 := hc k hlt
      have d0 := hc2 k hlt
      clear hc hc2
      generalize l[k] = e at *
      go_wp2_with fail
      go_quiet (fail)
      go_wp2_with fail
      go_roundw
      case rel => exact ⟨k + 1, q + nq, by omega, by go_num, rfl⟩
      case measure => simp [RowKit.intOf]; omega
    · obtain rfl : k = l.length := by omega
      go_wp2
      go_ret
      exact ⟨rfl, q, rfl⟩

set_option maxHeartbeats 4000000 in
set_option maxRecDepth 100000 in
theorem sameEditsQ_any (a1 a2 : Option Addr) (c1 c2 : Nat) (l : List EditP) (hl : l.length ≤ 1000000) (w : World) (h1 : EditsIn w.heap.size w (.slice a1 l.length c1) l) (h2 : EditsIn w.heap.size w (.slice a2 l.length c2) l) :
    Calls Try.prog 20 #[.slice a1 l.length c1, .slice a2 l.length c2] w fun e w' => e = .returned (.bool true) ∧ ∃ q, w' = w.drewN q := by
  have H1 := Lib.hid h1
  have H2 := Lib.hid h2
  have mixed : Try.prog.follows Departure.mixedOrders = true := rfl
  clear h1 h2
  go_enter Try.func20, Try.ntmps20
  go_wp2
  go_loopw [5] (fun iv wr => ∃ k q : Nat, k ≤ l.length ∧ iv = .int .i64 k ∧ wr = w.drewN q) (fun iv _ => l.length - (RowKit.intOf iv).toNat)
  case atStart => exact ⟨0, 0, Nat.zero_le _, rfl, rfl⟩
  case round =>
    obtain ⟨k, q, hk, rfl, rfl⟩ := hrel
    by_cases hlt : k < l.length
    · have hlt' : (k : Int) < (l.length : Int) := by omega
      obtain ⟨g, off, rfl, hg, -, hc⟩ := H1.out.at hlt
      obtain ⟨g2, off2, rfl, hg2, -, hc2⟩ := H2.out.at hlt
      obtain ⟨c0, c1, c2⟩ := hc k hlt
      obtain ⟨d0, d1, d2⟩ := hc2 k hlt
      clear hc hc2
      generalize l[k] = e at *
      obtain ⟨x0, x1, x2⟩ := e
      simp only at c0 c1 c2 d0 d1 d2
      go_wp2_with fail
      go_quiet (fail)
      go_wp2_with fail
      go_roundw
      case rel => exact ⟨k + 1, q + nq, by omega, by go_num, rfl⟩
      case measure => simp [RowKit.intOf]; omega
    · obtain rfl : k = l.length := by omega
      go_wp2
      go_ret
      exact ⟨rfl, q, rfl⟩

set_option maxHeartbeats 4000000 in
set_option maxRecDepth 100000 in
theorem sameFindings_any (a1 a2 : Option Addr) (c1 c2 : Nat) (l : List FindP) (hl : l.length ≤ 1000000) (he : ∀ f ∈ l, f.edits.length ≤ 1000000) (w : World) (h1 : FindsIn w.heap.size w (.slice a1 l.length c1) l) (h2 : FindsIn w.heap.size w (.slice a2 l.length c2) l) :
    Calls Try.prog 19 #[.slice a1 l.length c1, .slice a2 l.length c2] w fun e w' => e = .returned (.bool true) ∧ ∃ q, w' = w.drewN q := by
  have H1 := Lib.hid h1
  have H2 := Lib.hid h2
  have HE := Lib.hid he
  have mixed : Try.prog.follows Departure.mixedOrders = true := rfl
  clear h1 h2 he
  go_enter Try.func19, Try.ntmps19
  go_wp2
  go_loopw [5] (fun iv wr => ∃ k q : Nat, k ≤ l.length ∧ iv = .int .i64 k ∧ wr = w.drewN q) (fun iv _ => l.length - (RowKit.intOf iv).toNat)
  case atStart => exact ⟨0, 0, Nat.zero_le _, rfl, rfl⟩
  case round =>
    obtain ⟨k, q, hk, rfl, hq⟩ := hrel
    have hbw : Below w.heap.size w wr := by rw [hq]; exact below_drewN (Below.refl _ _)
    have HQ := Lib.hid hq
    clear hq
    by_cases hlt : k < l.length
    · have hlt' : (k : Int) < (l.length : Int) := by omega
      have hel := HE.out l[k] (List.getElem_mem hlt)
      obtain ⟨g, off, rfl, hg, -, hc⟩ := (H1.out.later hbw).at hlt
      obtain ⟨g2, off2, rfl, hg2, -, hc2⟩ := (H2.out.later hbw).at hlt
      obtain ⟨c0, c1, c2, a3, cap3, c3, hE3⟩ := hc k hlt
      obtain ⟨d0, d1, d2, a4, cap4, d3, hE4⟩ := hc2 k hlt
      clear hc hc2
      generalize l[k] = e at *
      obtain ⟨x0, x1, x2, x3⟩ := e
      simp only at c0 c1 c2 c3 d0 d1 d2 d3 hE3 hE4 hel
      have hc := fun (n : Nat) => sameEditsQ_any a3 a4 cap3 cap4 x3 hel (wr.drewN n) (hE3.later0 (below_drewN (Below.refl _ _))) (hE4.later0 (below_drewN (Below.refl _ _)))
      clear hE3 hE4 hbw
      go_wp2_with fail
      go_quiet (first | (go_at_call 20; refine Calls.quiet_of (hc _)))
      go_wp2_with fail
      go_roundw
      case rel => exact ⟨k + 1, q + nq, by omega, by go_num, by rw [HQ.out, World.drewN_drewN]⟩
      case measure => simp [RowKit.intOf]; omega
    · obtain rfl : k = l.length := by omega
      go_wp2
      go_ret
      exact ⟨rfl, q, HQ.out⟩
end Go.Proofs.Ytkhpoeolnhfflaa
