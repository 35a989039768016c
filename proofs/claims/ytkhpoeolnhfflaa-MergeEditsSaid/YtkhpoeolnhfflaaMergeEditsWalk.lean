/-
  The walk of MergeEdits: it returns true whatever it is handed. Conditions: the form's own bounds.
-/
import Derived.Test.YtkhpoeolnhfflaaMergeChoosesWalk
set_option linter.unusedSimpArgs false
set_option linter.unusedVariables false
namespace Go.Proofs.Ytkhpoeolnhfflaa
open Go.Shelf Go.RowKit Go.Lib Go.Sort

namespace mergeEdits
set_option maxHeartbeats 8000000 in
set_option maxRecDepth 100000 in
theorem walk (a : Option Addr) (l : List FindP) (cap : Nat) (hl : l.length * 48 ≤ reachBytes) (hx : ∀ f ∈ l, FindOk f) (ai : Option Addr) (li : List Int) (ci : Nat) (hli : li.length * 8 ≤ reachBytes) (_hxi : ∀ n ∈ li, (Lit.int .i64 n).wf = true)
    (ax : Option Addr) (lx : List EditP) (cx : Nat) (hlx : lx.length * 32 ≤ reachBytes) (_hxx : ∀ e ∈ lx, EditOk e) (ay : Option Addr) (ly : List EditP) (cy : Nat) (hly : ly.length * 32 ≤ reachBytes) (_hxy : ∀ e ∈ ly, EditOk e)
    (w : World) (hI : FindsIn w.heap.size w (.slice a l.length cap) l) (hC : IntsIn w.heap.size w (.slice ai li.length ci) li) (hX : EditsIn w.heap.size w (.slice ax lx.length cx) lx) (hY : EditsIn w.heap.size w (.slice ay ly.length cy) ly) :
    Calls Try.prog 4 #[.slice a l.length cap, .slice ai li.length ci, .slice ax lx.length cx, .slice ay ly.length cy] w fun e w' => e = .returned (.bool true) ∧ Below w.heap.size w w' := by
  have hG := fun (w1 : World) (h : FindsIn w1.heap.size w1 (.slice a l.length cap) l) => greatF_any a cap l hx w1 h
  have HI := Lib.hid hI
  have HC := Lib.hid hC
  have HX := Lib.hid hX
  have HY := Lib.hid hY
  have mixed : Try.prog.follows Departure.mixedOrders = true := rfl
  clear hI hC hX hY hx hl hli hlx hly _hxi _hxx _hxy
  cases hg : greatF l
  · rw [hg] at hG
    by_cases h1 : 100 < li.length
    · have h1' : (100 : Int) < (li.length : Int) := by omega
      clear hg
      go_enter Try.func4, Try.ntmps4
      go_wp2_with fail
      refine (mergeAlive_any _).mono ?_
      rintro e w1 ⟨rfl, b1⟩
      go_wp2_with fail
      refine (hG w1 (HI.out.later b1)).mono ?_
      rintro e w2 ⟨rfl, rfl⟩
      go_wp2_with fail
      go_ret
      exact ⟨rfl, b1⟩
    · have h1' : ¬ (100 : Int) < (li.length : Int) := by omega
      by_cases h2 : 300 < lx.length
      · have h2' : (300 : Int) < (lx.length : Int) := by omega
        clear hg
        go_enter Try.func4, Try.ntmps4
        go_wp2_with fail
        refine (mergeAlive_any _).mono ?_
        rintro e w1 ⟨rfl, b1⟩
        go_wp2_with fail
        refine (hG w1 (HI.out.later b1)).mono ?_
        rintro e w2 ⟨rfl, rfl⟩
        go_wp2_with fail
        go_ret
        exact ⟨rfl, b1⟩
      · have h2' : ¬ (300 : Int) < (lx.length : Int) := by omega
        by_cases h3 : 300 < ly.length
        · have h3' : (300 : Int) < (ly.length : Int) := by omega
          clear hg
          go_enter Try.func4, Try.ntmps4
          go_wp2_with fail
          refine (mergeAlive_any _).mono ?_
          rintro e w1 ⟨rfl, b1⟩
          go_wp2_with fail
          refine (hG w1 (HI.out.later b1)).mono ?_
          rintro e w2 ⟨rfl, rfl⟩
          go_wp2_with fail
          go_ret
          exact ⟨rfl, b1⟩
        · have h3' : ¬ (300 : Int) < (ly.length : Int) := by omega
          obtain ⟨g1, g2, g3⟩ := greatF_false hg
          have hCp := fun (w1 : World) (h : FindsIn w1.heap.size w1 (.slice a l.length cap) l) => copyFindings_any a cap l (by omega) (fun f hf => by have := g3 f hf; omega) w1 h
          have hCi := fun (w1 : World) (h : IntsIn w1.heap.size w1 (.slice ai li.length ci) li) => copyInts_any ai ci li (by omega) w1 h
          have hME := fun (a1 a2 : Option Addr) (c1 c2 : Nat) (w1 : World) (h : FindsIn w1.heap.size w1 (.slice a1 l.length c1) l) (h2 : IntsIn w1.heap.size w1 (.slice a2 li.length c2) li) => mergeEdits_any a1 a2 c1 c2 l li (by omega) (by omega) (fun f hf => by have := g3 f hf; omega) w1 h h2
          have hRE := fun (w1 : World) (h : FindsIn w1.heap.size w1 (.slice a l.length cap) l) (h2 : IntsIn w1.heap.size w1 (.slice ai li.length ci) li) => refEdits_any a ai cap ci l li (by omega) (by omega) (fun f hf => by have := g3 f hf; omega) w1 h h2
          have hSF := fun (a1 : Option Addr) (c1 : Nat) (w1 : World) (h1 : FindsIn w1.heap.size w1 (.slice a1 l.length c1) l) (h2 : FindsIn w1.heap.size w1 (.slice a l.length cap) l) => sameFindings_any a1 a c1 cap l (by omega) (fun f hf => by have := g3 f hf; omega) w1 h1 h2
          have hEL := editsF_len l (fun f hf => by have := g3 f hf; omega) li
          have hSE := fun (a1 a2 : Option Addr) (c1 c2 : Nat) (w1 : World) (h1 : EditsIn w1.heap.size w1 (.slice a1 (editsF l li).length c1) (ss ltE (editsF l li))) (h2 : EditsIn w1.heap.size w1 (.slice a2 (editsF l li).length c2) (ss ltE (editsF l li))) => by
            have hz := ss_length ltE (editsF l li)
            rw [← hz] at h1 h2
            have := sameEditsQ_any a1 a2 c1 c2 (ss ltE (editsF l li)) (by omega) w1 h1 h2
            rw [hz] at this
            exact this
          have hCx := fun (w1 : World) (h : EditsIn w1.heap.size w1 (.slice ax lx.length cx) lx) => copyEdits_any ax cx lx (by omega) w1 h
          have hCy := fun (w1 : World) (h : EditsIn w1.heap.size w1 (.slice ay ly.length cy) ly) => copyEdits_any ay cy ly (by omega) w1 h
          have hKL := fun (a1 a2 : Option Addr) (c1 c2 : Nat) (w1 : World) (h1 : EditsIn w1.heap.size w1 (.slice a1 lx.length c1) lx) (h2 : EditsIn w1.heap.size w1 (.slice a2 ly.length c2) ly) => mergeClash_any a1 a2 c1 c2 lx ly (by omega) (by omega) w1 h1 h2
          have hKR := fun (w1 : World) (h1 : EditsIn w1.heap.size w1 (.slice ay ly.length cy) ly) (h2 : EditsIn w1.heap.size w1 (.slice ax lx.length cx) lx) => mergeClash_any ay ax cy cx ly lx (by omega) (by omega) w1 h1 h2
          have hRK := fun (w1 : World) (h1 : EditsIn w1.heap.size w1 (.slice ax lx.length cx) lx) (h2 : EditsIn w1.heap.size w1 (.slice ay ly.length cy) ly) => refClash_any ax ay cx cy lx ly (by omega) (by omega) w1 h1 h2
          have hcm : clashP ly lx = clashP lx ly := clashP_comm ly lx
          rw [hcm] at hKR
          generalize clashP lx ly = r at *
          have hz2 := ss_length ltE (editsF l li)
          generalize editsF l li = E at *
          generalize ss ltE E = S at *
          clear g1 g2 g3 hg hcm hEL
          go_enter Try.func4, Try.ntmps4
          go_wp2_with fail
          refine (mergeAlive_any _).mono ?_
          rintro e w1 ⟨rfl, b1⟩
          go_wp2_with fail
          refine (hG w1 (HI.out.later b1)).mono ?_
          rintro e w2 ⟨rfl, rfl⟩
          go_wp2_with fail
          refine (hCp w2 (HI.out.later b1)).mono ?_
          rintro e w3 ⟨⟨a3, c3, rfl, hO3⟩, b3⟩
          have d3 := b1.trans (b3.mono b1.size)
          clear b3 b1
          go_wp2_with fail
          refine (hCi w3 (HC.out.later d3)).mono ?_
          rintro e w4 ⟨⟨a4, c4, rfl, hC4⟩, b4⟩
          have hO4 := hO3.later b4
          have d4 := d3.trans (b4.mono d3.size)
          clear b4 hO3 d3
          go_wp2_with fail
          refine (hME a3 a4 c3 c4 w4 hO4 hC4).mono ?_
          rintro e w5 ⟨⟨a5, c5, rfl, hE5⟩, b5⟩
          have hO5 := hO4.later b5
          have d5 := d4.trans (b5.mono d4.size)
          clear b5 hO4 d4 hC4
          go_wp2_with fail
          refine (hRE w5 (HI.out.later d5) (HC.out.later d5)).mono ?_
          rintro e w6 ⟨⟨a6, c6, rfl, hE6⟩, b6⟩
          have hO6 := hO5.later b6
          have hE56 := hE5.later0 b6
          have d6 := d5.trans (b6.mono d5.size)
          clear b6 hO5 d5 hE5
          go_wp2_with fail
          refine (hSE a5 a6 c5 c6 w6 hE56 hE6).mono ?_
          rintro e w7 ⟨rfl, q7, rfl⟩
          have hO7 := hO6.later (below_same (q := q7))
          have d7 := below_drewN (n := q7) d6
          clear hO6 d6 hE6 hE56
          go_wp2_with fail
          refine (hSF a3 c3 _ hO7 (HI.out.later d7)).mono ?_
          rintro e w8 ⟨rfl, q8, rfl⟩
          have D8 := Lib.hid (below_drewN (n := q8) d7)
          clear hO7 d7
          generalize (w6.drewN q7).drewN q8 = w8 at *
          go_wp2_with fail
          refine (hCx w8 (HX.out.later0 D8.out)).mono ?_
          rintro e w9 ⟨⟨a9, c9, rfl, hE9⟩, b9⟩
          have d9 := D8.out.trans (b9.mono D8.out.size)
          clear b9
          go_wp2_with fail
          refine (hCy w9 (HY.out.later0 d9)).mono ?_
          rintro e w10 ⟨⟨a10, c10, rfl, hE10⟩, b10⟩
          have d10 := d9.trans (b10.mono d9.size)
          have hE910 := hE9.later0 b10
          clear b10 d9 hE9
          go_wp2_with fail
          refine (hKL a9 a10 c9 c10 w10 hE910 hE10).mono ?_
          rintro e w11 ⟨rfl, b11⟩
          have d11 := d10.trans (b11.mono d10.size)
          clear b11 d10 hE910 hE10
          go_wp2_with fail
          refine (hRK w11 (HX.out.later0 d11) (HY.out.later0 d11)).mono ?_
          rintro e w12 ⟨rfl, q12, os12, hw12⟩
          have d12 : Below w.heap.size w w12 := by rw [hw12]; exact below_grown d11 d11.size
          clear hw12 d11
          go_wp2_with fail
          refine (hKL ax ay cx cy w12 (HX.out.later0 d12) (HY.out.later0 d12)).mono ?_
          rintro e w13 ⟨rfl, b13⟩
          have d13 := d12.trans (b13.mono d12.size)
          clear b13 d12
          go_wp2_with fail
          refine (hKR w13 (HY.out.later0 d13) (HX.out.later0 d13)).mono ?_
          rintro e w14 ⟨rfl, b14⟩
          go_wp2_with fail
          go_ret
          exact ⟨by first | rfl | simp, d13.trans (b14.mono d13.size)⟩
  · rw [hg] at hG
    go_enter Try.func4, Try.ntmps4
    go_wp2_with fail
    refine (mergeAlive_any _).mono ?_
    rintro e w1 ⟨rfl, b1⟩
    go_wp2_with fail
    refine (hG w1 (HI.out.later b1)).mono ?_
    rintro e w2 ⟨rfl, rfl⟩
    go_wp2_with fail
    go_ret
    exact ⟨rfl, b1⟩
end mergeEdits
end Go.Proofs.Ytkhpoeolnhfflaa
