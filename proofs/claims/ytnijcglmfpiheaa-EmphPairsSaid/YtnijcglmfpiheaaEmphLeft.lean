/-
  Pairs and Left: what is found, and how many marks each row has left. Conditions: bounds on sizes.
-/
import Derived.Test.YtnijcglmfpiheaaEmphSolve
import Derived.RangeFuncNested
import Derived.RangeFuncBox
import Derived.RangeFuncLeaves
import Derived.Shelf.Abstract
import Derived.WalkKit
import Derived.OwnWalkIn
import Derived.TacticsInMore
import Derived.LoopNIn
import Derived.LoopIn
set_option linter.unusedSimpArgs false
set_option linter.unusedVariables false
namespace Go.Proofs.Ytnijcglmfpiheaa
open Go.Shelf Go.RowKit Go.Lib

/-- A slice value holds the addresses of rows with so many marks left, all in blocks below n. -/
def LeftsIn (n : Nat) (w : World) (v : Value) (zs : List Int) : Prop :=
  ∃ a cap, v = .slice a zs.length cap ∧ (zs ≠ [] → ∃ (g : Nat) (R : Nat → Nat), a = some ⟨g, 0, none⟩ ∧ g < n ∧ ∀ j (h : j < zs.length), w.cell? ⟨g, j, none⟩ = some (.pointer (some ⟨R j, 0, none⟩)) ∧ R j < n ∧ w.cell? ⟨R j, 4, none⟩ = some (.int .i64 zs[j]))
theorem LeftsIn.below {n : Nat} {w w' : World} {v : Value} {l : List Int} (h : LeftsIn n w v l) (hb : Below n w w') : LeftsIn n w' v l := by
  obtain ⟨a, cap, e, hr⟩ := h
  refine ⟨a, cap, e, fun hne => ?_⟩
  obtain ⟨g, R, ea, hg, hc⟩ := hr hne
  refine ⟨g, R, ea, hg, fun j hj => ?_⟩
  obtain ⟨h1, h2, h3⟩ := hc j hj
  exact ⟨by rw [hb.cell (p := ⟨g, _, none⟩) hg]; exact h1, h2, by rw [hb.cell (p := ⟨R j, _, none⟩) h2]; exact h3⟩
theorem LeftsIn.mono {n m : Nat} {w : World} {v : Value} {l : List Int} (h : LeftsIn n w v l) (hb : n ≤ m) : LeftsIn m w v l := by
  obtain ⟨a, cap, e, hr⟩ := h
  refine ⟨a, cap, e, fun hne => ?_⟩
  obtain ⟨g, R, ea, hg, hc⟩ := hr hne
  exact ⟨g, R, ea, by omega, fun j hj => ⟨(hc j hj).1, by have := (hc j hj).2.1; omega, (hc j hj).2.2⟩⟩

section
attribute [local go_sem] Oper.semAt_some

set_option maxRecDepth 100000 in
set_option maxHeartbeats 4000000 in
theorem left1_any (n : Nat) (hn : 1 ≤ n) (l Bs n₀ g cap : Nat) (R : Nat → Nat) (zs : List Int) (hz : zs.length ≤ 1000000) (hb : g < n₀) (J Jx : List Int → World → Prop)
    (hY : ∀ pre x W, J pre W → pre.length < zs.length → YieldAt Fence.wide (n - 1) Try.prog l #[.int .i64 x] W fun e W' =>
      (e = .returned (.bool true) ∧ J (pre ++ [x]) W' ∧ Below n₀ W W') ∨ (e = .returned (.bool false) ∧ Jx (pre ++ [x]) W'))
    (W : World) (hn0 : n₀ ≤ W.heap.size) (hBs : W.cell? ⟨Bs, 0, none⟩ = some (.slice (some ⟨g, 0, none⟩) zs.length cap)) (hc : ∀ j (h : j < zs.length), W.cell? ⟨g, j, none⟩ = some (.pointer (some ⟨R j, 0, none⟩)) ∧ R j < n₀ ∧ W.cell? ⟨R j, 4, none⟩ = some (.int .i64 zs[j])) (h0 : J [] W) :
    CallsIn Fence.wide n Try.prog 38 #[.func (.yield l) #[] #[], .pointer (some ⟨Bs, 0, none⟩)] W fun e W' => (∃ v, e = .returned v) ∧
      ((∃ ys, ys = zs ∧ J ys W') ∨ (∃ pre, pre <+: zs ∧ Jx pre W')) := by
  have HY := Lib.hid hY
  have HC := Lib.hid hc
  clear hY hc
  refine callsIn_of_wp Try.func38 rfl trivial ?_ rfl
  simp only [Try.ntmps38, List.size_toArray, List.length_cons, List.length_nil, Nat.reduceAdd, Nat.reduceSub, Array.replicate_succ, Array.replicate_zero, List.push_toArray, List.append_toArray, List.nil_append, List.cons_append]
  gi_wp2
  gi_loopw [4, 7] (fun _ i wr => ∃ k : Nat, k ≤ zs.length ∧ i = .int .i64 k ∧ J (zs.take k) wr ∧ Below n₀ W wr) (fun _ i _ => zs.length - (RowKit.intOf i).toNat)
  case atStart => exact ⟨0, Nat.zero_le _, rfl, h0, Below.refl _ _⟩
  case round =>
    obtain ⟨k, hk, rfl, hJs, hnx⟩ := hrel
    by_cases hlt : k < zs.length
    · have hlt' : (k : Int) < (zs.length : Int) := by omega
      have zw := hnx.size
      obtain ⟨d0, d1, d2⟩ := HC.out k hlt
      have c0 := (hnx.cell (p := ⟨g, _, none⟩) hb).trans d0
      have c1 := (hnx.cell (p := ⟨R k, _, none⟩) d1).trans d2
      obtain ⟨fn, tmps, assign, body, hy, hR⟩ := HY.out _ zs[k] _ hJs (by rw [List.length_take]; omega)
      have HT : RowKit.Hid (zs.take k ++ [zs[k]] = zs.take (k + 1)) := (List.take_succ_eq_append_getElem hlt).symm
      clear d0 d2
      gi_wp2
      refine hR.mono ?_
      rintro e W3 (⟨rfl, hJ3, hk3⟩ | ⟨rfl, hJx3⟩)
      · rw [HT.out] at hJ3
        gi_wp2
        go_roundw
        case rel => exact ⟨k + 1, by omega, by go_num, hJ3, hnx.trans hk3⟩
        case measure => simp [RowKit.intOf]; omega
      · rw [HT.out] at hJx3
        gi_wp2
        refine bodyPost_ret (results_none rfl _ _ _) rfl ?_
        exact ⟨⟨_, rfl⟩, .inr ⟨_, List.take_prefix _ _, hJx3⟩⟩
    · obtain rfl : k = zs.length := by omega
      gi_wp2
      go_end0
      exact ⟨⟨_, rfl⟩, .inl ⟨_, List.take_length, hJs⟩⟩

set_option maxRecDepth 100000 in
set_option maxHeartbeats 1000000 in
theorem left1_none (n : Nat) (l Bs : Nat) (a : Option Addr) (cap : Nat) (J : List Int → World → Prop) (W : World) (hBs : W.cell? ⟨Bs, 0, none⟩ = some (.slice a 0 cap)) (h0 : J [] W) :
    CallsIn Fence.wide n Try.prog 38 #[.func (.yield l) #[] #[], .pointer (some ⟨Bs, 0, none⟩)] W fun e W' => (∃ v, e = .returned v) ∧ J [] W' := by
  refine callsIn_of_wp Try.func38 rfl trivial ?_ rfl
  simp only [Try.ntmps38, List.size_toArray, List.length_cons, List.length_nil, Nat.reduceAdd, Nat.reduceSub, Array.replicate_succ, Array.replicate_zero, List.push_toArray, List.append_toArray, List.nil_append, List.cons_append]
  gi_wp2
  gi_loopw [7] (fun i wr => i = .int .i64 0 ∧ J [] wr) (fun _ _ => 0)
  case atStart => exact ⟨rfl, h0⟩
  case round =>
    obtain ⟨rfl, hJs⟩ := hrel
    gi_wp2
    go_end0
    exact ⟨⟨_, rfl⟩, hJs⟩

/-- What Left's function gives, one after the other. -/
theorem left_stops (n : Nat) (hn : 1 ≤ n) (Bs n₀ : Nat) (sv : Value) (zs : List Int) (hz : zs.length ≤ 1000000) (w : World) (hBs : Bs < w.heap.size) (hn₀ : n₀ ≤ w.heap.size) (hc : w.cell? ⟨Bs, 0, none⟩ = some sv) (hI : LeftsIn n₀ w sv zs) :
    SeqStopsK Fence.wide n Try.prog 38 #[.pointer (some ⟨Bs, 0, none⟩)] (fun x : Int => #[Value.int .i64 x]) (Below n₀) (fun ys => ys = zs) (fun pre => pre <+: zs) zs.length w := fun l J Jx W hW hJ _ hY h0 => by
  have hc' := (hW.cell (p := ⟨Bs, 0, none⟩) hBs).trans hc
  have hWs := hW.size
  obtain ⟨a, cap, rfl, hr⟩ := hI.below (hW.mono hn₀)
  cases zs with
  | nil => exact (left1_none n l Bs a cap J W hc' h0).mono fun e W' ⟨he, hj⟩ => ⟨he, .inl ⟨_, rfl, hj⟩⟩
  | cons z zs =>
    obtain ⟨g, R, rfl, hg, hcs⟩ := hr (by simp)
    exact left1_any n hn l Bs n₀ g cap R (z :: zs) hz hg J Jx hY W (by omega) hc' hcs h0
set_option maxRecDepth 100000 in
set_option maxHeartbeats 4000000 in
theorem appendSeq_any (Bs : Nat) (sv : Value) (zs : List Int) (hz : zs.length ≤ 1000000) (w : World) (hBs : Bs < w.heap.size) (hc : w.cell? ⟨Bs, 0, none⟩ = some sv) (hI : LeftsIn w.heap.size w sv zs) :
    Calls Try.prog 43 #[.slice none 0 0, .func (.func 38) #[] #[.pointer (some ⟨Bs, 0, none⟩)]] w fun e W' =>
      ∃ v, e = .returned v ∧ W'.ownsRow w.heap.size 3 1 v zs.length (intCells zs) ∧ Below w.heap.size w W' := by
  refine (callsIn_wide (n := 10)).1 ?_
  obtain ⟨i0, hi, hz0, hz1, hz2⟩ := info_parts infoInt
  refine callsIn_of_wp_marks Try.func43 rfl trivial ?_ rfl
  simp only [Try.ntmps43, List.size_toArray, List.length_cons, List.length_nil, Nat.reduceAdd, Nat.reduceSub, Array.replicate_succ, Array.replicate_zero, List.push_toArray, List.append_toArray, List.nil_append, List.cons_append]
  gi_wp2
  have bO := Boxed.new w 36 (.slice none 0 0)
  have hB0 : Below w.heap.size w (w.alloc (.cells #[.slice none 0 0] 36)) := (Below.refl _ w).alloc (Nat.le_refl _) _
  refine wpIn_rangeFunc_ownH rfl (by decide) (gf := 38) (lb := #[.pointer (some ⟨Bs, 0, none⟩)]) rfl trivial (enters_of Try.func38 (by kernel_rfl) rfl)
    (left_stops 9 (by decide) Bs w.heap.size sv zs hz _ (by simp; omega) (by simp) ((hB0.cell (p := ⟨Bs, 0, none⟩) hBs).trans hc) (hI.below hB0)) belowK_t (belowK_b (by simp)) (Below.refl _ _) (fun _ => rfl)
    (fun pre W => (∃ v, Boxed W w.heap.size 36 v ∧ W.ownsRow w.heap.size 3 1 v pre.length (intCells pre) ∧ True) ∧ Below w.heap.size w W)
    (fun _ _ _ => False)
    (OwnFrom.and (Own.from (holdsRow_own w.heap.size w.heap.size 36 3 1 (fun (pre : List Int) => pre.length) (fun pre => intCells pre) (fun _ _ => True)) _) (ownFrom_below (Nat.le_refl _) (by simp)))
    (fun _ _ _ _ _ hs _ _ => hs)
    ⟨⟨_, bO, World.ownsRow_nil _ _ _ _, trivial⟩, hB0⟩
    (fun x a' _ => a' = { tmps := #[.slice none 0 0, .func (.func 38) #[] #[.pointer (some ⟨Bs, 0, none⟩)], .pointer (some ⟨w.heap.size, 0, none⟩), undef, .slice none 0 0, .int .i64 x, .func (.func 38) #[] #[.pointer (some ⟨Bs, 0, none⟩)], .int .i64 x, undef, undef, undef, undef, undef], defers := [] })
    (fun x a' _ X Y row hs hg hr => hs)
    ?assign ?body ?done ?stop
  case assign =>
    rintro l pre x W K ⟨⟨v, hv, hrow, -⟩, hB⟩ hK
    gi_wp2
    exact hK _ _ ((KeepsOthers.refl _).from _) (Below.refl _ W) ⟨⟨v, hv, hrow, trivial⟩, hB⟩ rfl
  case body =>
    rintro l pre x a' W hl ⟨r, hr⟩ ⟨⟨v, hv, hrow, -⟩, hB⟩ rfl hlt
    have hc := hv.cell
    gi_wp2_with (gi_at_builtin; refine wpListIn_append_own _ rfl _ _ 36 rfl w.heap.size 3 i0 (.int .i64 0) 1 8 Try.underlying36 hi hz0 hz1 hz2 rfl (by decide) _ _ _ rfl (hrow.alloc _) ⟨W.heap.size, 0, none⟩ 1 1 [.int .i64 x] rfl rfl (newPtr _ _) (by simp [Value.oneCell']) (by unfold maxLen; omega) (by omega) (by have := hB.size; simp; omega) ?_; intro v' w1 hown' hgrow _; obtain ⟨g', cap', rfl⟩ := ownsRow_succ hown'; obtain ⟨hv1, hv2, hr2, hk2, hb2⟩ := hv.appended (by decide) hrow hB.size (Nat.le_refl _) hown' hgrow; have hc1 := hv1.cell; have hf1 := hv1.frozen)
    exact ⟨hk2.from _, hb2, ⟨_, hv2, by rw [intCells_snoc]; rw [List.length_append]; exact hr2, trivial⟩, hB.trans hb2⟩
  case done =>
    rintro D ys W hD rfl ⟨⟨v, hv, hrow, -⟩, hB⟩ hK
    have hc := hv.cell
    gi_wp2
    refine ⟨by simp, .inl ⟨_, _, rfl, run_takeDeferred hK, ?_⟩⟩
    exact ⟨_, results_tmp rfl _ _ _, v, rfl, ownsRow_putObj hrow _ hK rfl, hB.trans (belowK_b (w := w) (Nat.le_refl _) W D _ _ (by simp at hD; omega) hK rfl rfl)⟩
  case stop =>
    rintro D c pre W _ _ h _
    exact h.elim
end

set_option maxRecDepth 100000 in
set_option maxHeartbeats 1000000 in
theorem collect_any (Bs : Nat) (sv : Value) (zs : List Int) (hz : zs.length ≤ 1000000) (w : World) (hBs : Bs < w.heap.size) (hc : w.cell? ⟨Bs, 0, none⟩ = some sv) (hI : LeftsIn w.heap.size w sv zs) :
    Calls Try.prog 37 #[.func (.func 38) #[] #[.pointer (some ⟨Bs, 0, none⟩)]] w fun e W' =>
      ∃ v, e = .returned v ∧ W'.ownsRow w.heap.size 3 1 v zs.length (intCells zs) ∧ Below w.heap.size w W' := by
  have h := appendSeq_any Bs sv zs hz w hBs hc hI
  go_enter Try.func37, Try.ntmps37
  go_wp2_with fail
  refine h.mono ?_
  rintro e w1 ⟨v, rfl, h1, h2⟩
  go_wp2_with fail
  go_ret
  exact ⟨v, rfl, h1, h2⟩

/-- The rows' addresses, as Left's function wants them. -/
theorem leftsIn_of {w : World} {N : Nat} {vr : Value} {R : Nat → Nat} {l : List RunP} {zs : List Int} (hl : zs.length = l.length) (h : w.ownsRow N 68 1 vr l.length ((List.range l.length).map (ptrC R))) (hr : ∀ i, i < l.length → w.heap[R i]? = some (.cells (rowC l[i]! zs[i]! i) 70)) : LeftsIn w.heap.size w vr zs := by
  obtain ⟨a, cap, rfl, -⟩ := ownsRow_slice h
  refine ⟨a, cap, by rw [hl], fun hne => ?_⟩
  have hpos : 0 < l.length := by
    have := List.length_pos_iff.2 hne
    omega
  obtain ⟨g, cap', e, hg, -⟩ := own_cell1 h hpos
  injection e with e1
  refine ⟨g, R, e1, hg, fun j hj => ?_⟩
  have hjl : j < l.length := by omega
  obtain ⟨g', cap2, e', -, hc⟩ := own_cell1 h hjl
  injection e' with e2
  rw [e1] at e2
  injection e2 with e2
  injection e2 with e2
  subst e2
  refine ⟨?_, (Array.getElem?_eq_some_iff.1 (hr j hjl)).1, ?_⟩
  · rw [hc, List.getElem?_map, List.getElem?_range hjl]; rfl
  · obtain ⟨-, -, -, -, h4, -, -⟩ := cells_six (hr j hjl)
    rw [h4, getElem!_pos zs j hj]

set_option maxRecDepth 100000 in
set_option maxHeartbeats 4000000 in
theorem pairs_any (a : Option Addr) (cap : Nat) (l : List RunP) (hll : l.length ≤ 1000000) (hok : ∀ r ∈ l, RunOk r) (w : World) (hI : RunsIn w.heap.size w (.slice a l.length cap) l) :
    Calls Try.prog 24 #[.slice a l.length cap] w fun e w' => (∃ a' c', e = .returned (.slice a' (solveP l).pairs.length c') ∧ PairsIn w'.heap.size w' (.slice a' (solveP l).pairs.length c') (solveP l).pairs) ∧ Below w.heap.size w w' := by
  have h := solve_any a cap l hll hok w hI
  clear hI hok
  generalize solveP l = s at *
  go_enter Try.func24, Try.ntmps24
  go_wp2_with fail
  refine h.mono ?_
  rintro e w1 ⟨⟨vp, vr, R, rfl, h1, -, -⟩, h2⟩
  go_wp2_with fail
  go_ret
  have hp := pairsIn_of_owns h1
  obtain ⟨a', c', rfl, -⟩ := ownsRow_slice h1
  exact ⟨⟨a', c', rfl, hp⟩, h2⟩

set_option maxRecDepth 100000 in
set_option maxHeartbeats 4000000 in
theorem left_any (a : Option Addr) (cap : Nat) (l : List RunP) (hll : l.length ≤ 1000000) (hok : ∀ r ∈ l, RunOk r) (w : World) (hI : RunsIn w.heap.size w (.slice a l.length cap) l) :
    Calls Try.prog 27 #[.slice a l.length cap] w fun e w' => (∃ v, e = .returned v ∧ w'.ownsRow w.heap.size 3 1 v (solveP l).left.length (intCells (solveP l).left)) ∧ Below w.heap.size w w' := by
  have h := solve_any a cap l hll hok w hI
  have hlen : (solveP l).left.length = l.length := (goP_good l l.length (Nat.le_refl _)).len
  clear hI hok
  generalize solveP l = s at *
  go_enter Try.func27, Try.ntmps27
  go_wp2_with fail
  refine h.mono ?_
  rintro e w1 ⟨⟨vp, vr, R, rfl, -, h1, h3⟩, h2⟩
  have hL := leftsIn_of hlen h1 h3
  obtain ⟨av, cv, rfl, -⟩ := ownsRow_slice h1
  have hA : Below w1.heap.size w1 (w1.alloc (.cells #[.slice av l.length cv] 62)) := (Below.refl _ w1).alloc (Nat.le_refl _) _
  have hC := collect_any w1.heap.size (.slice av l.length cv) s.left (by omega) (w1.alloc (.cells #[.slice av l.length cv] 62)) (by simp) (by have := heap_alloc_new w1 (.cells #[.slice av l.length cv] 62); simp only [World.cell?, this]; rfl) ((hL.below hA).mono hA.size)
  have HH : RowKit.Hid (∀ v W', W'.ownsRow (w1.alloc (.cells #[.slice av l.length cv] 62)).heap.size 3 1 v s.left.length (intCells s.left) → Below (w1.alloc (.cells #[.slice av l.length cv] 62)).heap.size (w1.alloc (.cells #[.slice av l.length cv] 62)) W' → W'.ownsRow w.heap.size 3 1 v s.left.length (intCells s.left) ∧ Below w.heap.size w W') := fun v W' k1 k2 => by
    refine ⟨?_, h2.trans ((hA.mono h2.size).trans (k2.mono (Nat.le_trans h2.size hA.size)))⟩
    have hz := Nat.le_trans h2.size hA.size
    refine ⟨k1.1, ?_⟩
    rcases k1.2 with hn | ⟨g, cap, cur, hv, hg, rest⟩
    · exact .inl hn
    · exact .inr ⟨g, cap, cur, hv, Nat.le_trans hz hg, rest⟩
  clear h h1 h2 h3 hL hA
  go_wp2_with fail
  refine hC.mono ?_
  rintro e w2 ⟨v, rfl, k1, k2⟩
  go_wp2_with fail
  go_ret
  obtain ⟨q1, q2⟩ := HH.out v w2 k1 k2
  exact ⟨⟨v, rfl, q1⟩, q2⟩
end Go.Proofs.Ytnijcglmfpiheaa
