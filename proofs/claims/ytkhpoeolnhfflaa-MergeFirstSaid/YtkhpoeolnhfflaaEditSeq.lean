/-
  slices.Values, Collect and AppendSeq at edits: a new row that holds what the old one holds. Conditions: at most 1000000 edits.
-/
import Derived.Test.YtkhpoeolnhfflaaEditCmp
import Derived.Test.YtkhpoeolnhfflaaBase
import Derived.RangeFuncNested
import Derived.RangeFuncBox
import Derived.RangeFuncLeaves
import Derived.Shelf.Abstract
import Derived.WalkKit
import Derived.OwnWalkIn
import Derived.TacticsInMore
import Derived.LoopNIn
import Derived.LoopIn
import Derived.Maps.AppendAt
set_option linter.unusedSimpArgs false
set_option linter.unusedVariables false
namespace Go.Proofs.Ytkhpoeolnhfflaa
open Go.Shelf Go.RowKit Go.Lib Go.Sort

/-- The three cells of an edit. -/
structure EditAt (w : World) (g o : Nat) (e : EditP) : Prop where
  fr : w.cell? ⟨g, o, none⟩ = some (.int .i64 e.fr)
  to : w.cell? ⟨g, o + 1, none⟩ = some (.int .i64 e.to)
  text : w.cell? ⟨g, o + 2, none⟩ = some (.string e.text)
/-- A slice value holds the edits l, in a block below n. -/
def EditsIn (n : Nat) (w : World) (v : Value) (l : List EditP) : Prop :=
  ∃ a cap, v = .slice a l.length cap ∧ (l ≠ [] → ∃ g off, a = some ⟨g, off, none⟩ ∧ g < n ∧ ∀ j (h : j < l.length), EditAt w g (off + j * 3) l[j])
theorem EditsIn.below {n : Nat} {w w' : World} {v : Value} {l : List EditP} (h : EditsIn n w v l) (hb : Below n w w') : EditsIn n w' v l := by
  obtain ⟨a, cap, e, hr⟩ := h
  refine ⟨a, cap, e, fun hne => ?_⟩
  obtain ⟨g, off, ea, hg, hc⟩ := hr hne
  exact ⟨g, off, ea, hg, fun j hj => ⟨by rw [hb.cell (p := ⟨g, _, none⟩) hg]; exact (hc j hj).fr, by rw [hb.cell (p := ⟨g, _, none⟩) hg]; exact (hc j hj).to, by rw [hb.cell (p := ⟨g, _, none⟩) hg]; exact (hc j hj).text⟩⟩
theorem EditsIn.mono {n m : Nat} {w : World} {v : Value} {l : List EditP} (h : EditsIn n w v l) (hb : n ≤ m) : EditsIn m w v l := by
  obtain ⟨a, cap, e, hr⟩ := h
  refine ⟨a, cap, e, fun hne => ?_⟩
  obtain ⟨g, off, ea, hg, hc⟩ := hr hne
  exact ⟨g, off, ea, by omega, hc⟩

section
attribute [local go_sem] Oper.semAt_some

set_option maxHeartbeats 1000000 in
theorem values_any (a : Option Addr) (len cap : Nat) (w : World) :
    Calls Try.prog 46 #[.slice a len cap] w fun e w' => e = .returned (.func (.func 55) #[] #[.pointer (some ⟨w.heap.size, 0, none⟩)]) ∧ w' = w.alloc (.cells #[.slice a len cap] 30) := by
  go_enter Try.func46, Try.ntmps46
  go_wp2
  go_ret
  exact ⟨rfl, rfl⟩

set_option maxRecDepth 100000 in
set_option maxHeartbeats 4000000 in
theorem values1_any (n : Nat) (hn : 1 ≤ n) (l Bs n₀ g off cap : Nat) (zs : List EditP) (hz : zs.length ≤ 1000000) (hb : g < n₀) (J Jx : List EditP → World → Prop)
    (hY : ∀ pre x W, J pre W → pre.length < zs.length → YieldAt Fence.wide (n - 1) Try.prog l #[.agg (encE x).toArray] W fun e W' =>
      (e = .returned (.bool true) ∧ J (pre ++ [x]) W' ∧ Below n₀ W W') ∨ (e = .returned (.bool false) ∧ Jx (pre ++ [x]) W'))
    (W : World) (hn0 : n₀ ≤ W.heap.size) (hJ : AbidesFrom W.heap.size J) (hBs : W.cell? ⟨Bs, 0, none⟩ = some (.slice (some ⟨g, off, none⟩) zs.length cap)) (hc : ∀ j (h : j < zs.length), EditAt W g (off + j * 3) zs[j]) (h0 : J [] W) :
    CallsIn Fence.wide n Try.prog 55 #[.func (.yield l) #[] #[], .pointer (some ⟨Bs, 0, none⟩)] W fun e W' => (∃ v, e = .returned v) ∧
      ((∃ ys, ys = zs ∧ J ys W') ∨ (∃ pre, pre <+: zs ∧ Jx pre W')) := by
  have HJ := Lib.hid hJ
  have HY := Lib.hid hY
  have HC := Lib.hid hc
  clear hJ hY hc
  refine callsIn_of_wp Try.func55 rfl trivial ?_ rfl
  simp only [Try.ntmps55, List.size_toArray, List.length_cons, List.length_nil, Nat.reduceAdd, Nat.reduceSub, Array.replicate_succ, Array.replicate_zero, List.push_toArray, List.append_toArray, List.nil_append, List.cons_append]
  gi_wp2
  gi_loopw [7] (fun i wr => ∃ k : Nat, k ≤ zs.length ∧ i = .int .i64 k ∧ J (zs.take k) wr ∧ Below n₀ W wr) (fun i _ => zs.length - (RowKit.intOf i).toNat)
  case atStart => exact ⟨0, Nat.zero_le _, rfl, h0, Below.refl _ _⟩
  case round =>
    obtain ⟨k, hk, rfl, hJs, hnx⟩ := hrel
    by_cases hlt : k < zs.length
    · have hlt' : (k : Int) < (zs.length : Int) := by omega
      have zw := hnx.size
      have c0 := (hnx.cell (p := ⟨g, _, none⟩) hb).trans (HC.out k hlt).fr
      have c1 := (hnx.cell (p := ⟨g, _, none⟩) hb).trans (HC.out k hlt).to
      have c2 := (hnx.cell (p := ⟨g, _, none⟩) hb).trans (HC.out k hlt).text
      have hJ2 := HJ.out _ wr _ none hJs (World.grownBy_alloc wr (.cells #[.int .i64 zs[k].fr, .int .i64 zs[k].to, .string zs[k].text] 50) none) (fun r e => by cases e)
      obtain ⟨fn, tmps, assign, body, hy, hR⟩ := HY.out _ zs[k] _ hJ2 (by rw [List.length_take]; omega)
      have HT : RowKit.Hid (zs.take k ++ [zs[k]] = zs.take (k + 1)) := (List.take_succ_eq_append_getElem hlt).symm
      have hyv : (encE zs[k]).toArray = #[.int .i64 zs[k].fr, .int .i64 zs[k].to, .string zs[k].text] := rfl
      rw [hyv] at hy
      gi_wp2
      refine hR.mono ?_
      rintro e W3 (⟨rfl, hJ3, hk3⟩ | ⟨rfl, hJx3⟩)
      · rw [HT.out] at hJ3
        gi_wp2
        go_roundw
        case rel => exact ⟨k + 1, by omega, by go_num, hJ3, (hnx.alloc (by omega) _).trans hk3⟩
        case measure => simp [RowKit.intOf]; omega
      · rw [HT.out] at hJx3
        gi_wp2
        refine bodyPost_ret (results_none rfl _ _ _) rfl ?_
        exact ⟨⟨_, rfl⟩, .inr ⟨_, List.take_prefix _ _, hJx3⟩⟩
    · obtain rfl : k = zs.length := by omega
      gi_wp2
      go_end0
      exact ⟨⟨_, rfl⟩, .inl ⟨_, List.take_length, hJs⟩⟩

set_option maxRecDepth 100000 in
set_option maxHeartbeats 1000000 in
theorem values1_none (n : Nat) (l Bs : Nat) (a : Option Addr) (cap : Nat) (J : List EditP → World → Prop) (W : World) (hBs : W.cell? ⟨Bs, 0, none⟩ = some (.slice a 0 cap)) (h0 : J [] W) :
    CallsIn Fence.wide n Try.prog 55 #[.func (.yield l) #[] #[], .pointer (some ⟨Bs, 0, none⟩)] W fun e W' => (∃ v, e = .returned v) ∧ J [] W' := by
  refine callsIn_of_wp Try.func55 rfl trivial ?_ rfl
  simp only [Try.ntmps55, List.size_toArray, List.length_cons, List.length_nil, Nat.reduceAdd, Nat.reduceSub, Array.replicate_succ, Array.replicate_zero, List.push_toArray, List.append_toArray, List.nil_append, List.cons_append]
  gi_wp2
  gi_loopw [7] (fun i wr => i = .int .i64 0 ∧ J [] wr) (fun _ _ => 0)
  case atStart => exact ⟨rfl, h0⟩
  case round =>
    obtain ⟨rfl, hJs⟩ := hrel
    gi_wp2
    go_end0
    exact ⟨⟨_, rfl⟩, hJs⟩

/-- What slices.Values hands back gives the row's edits, one after the other. -/
theorem values_stops (n : Nat) (hn : 1 ≤ n) (Bs n₀ : Nat) (sv : Value) (zs : List EditP) (hz : zs.length ≤ 1000000) (w : World) (hBs : Bs < w.heap.size) (hn₀ : n₀ ≤ w.heap.size) (hc : w.cell? ⟨Bs, 0, none⟩ = some sv) (hI : EditsIn n₀ w sv zs) :
    SeqStopsK Fence.wide n Try.prog 55 #[.pointer (some ⟨Bs, 0, none⟩)] (fun x : EditP => #[Value.agg (encE x).toArray]) (Below n₀) (fun ys => ys = zs) (fun pre => pre <+: zs) zs.length w := fun l J Jx W hW hJ _ hY h0 => by
  have hc' := (hW.cell (p := ⟨Bs, 0, none⟩) hBs).trans hc
  have hWs := hW.size
  obtain ⟨a, cap, rfl, hr⟩ := hI.below (hW.mono hn₀)
  cases zs with
  | nil => exact (values1_none n l Bs a cap J W hc' h0).mono fun e W' ⟨he, hj⟩ => ⟨he, .inl ⟨_, rfl, hj⟩⟩
  | cons z zs =>
    obtain ⟨g, off, rfl, hg, hcs⟩ := hr (by simp)
    exact values1_any n hn l Bs n₀ g off cap (z :: zs) hz hg J Jx hY W (by omega) hJ hc' hcs h0

theorem infoEdit : (Try.prog.info? 50).map (fun i => (i.zero, i.size, i.bytes)) = some (some (.agg #[.int .i64 0, .int .i64 0, .string ⟨#[]⟩]), 3, 32) := by kernel_rfl
def editCells (l : List EditP) : List Value := l.flatMap encE
theorem editCells_snoc (l : List EditP) (x : EditP) : editCells (l ++ [x]) = editCells l ++ encE x := by simp [editCells]
theorem editCells_length (l : List EditP) : (editCells l).length = l.length * 3 := by
  induction l with
  | nil => rfl
  | cons x t ih => simp only [editCells, List.flatMap_cons, List.length_append, List.length_cons] at ih ⊢; rw [ih]; simp [encE]; omega
/-- A block of three cells is no walk's object. -/
theorem obj_own {β : Type} (B : Nat) (c : Array Value) (t : TypeId) : Own (fun (_ : β) W => W.heap[B]? = some (.cells c t (0, 0))) := fun s X Y row hs hg hrow => by
  have hne : some B ≠ row := fun e' => by
    obtain ⟨o, ho, hc⟩ := hrow B e'.symm
    rw [show X.heap[B]? = _ from hs] at ho; cases ho; cases hc
  exact (grownBy_keeps_cells hg hrow hs rfl).trans hs
set_option maxRecDepth 100000 in
set_option maxHeartbeats 4000000 in
theorem appendSeq_any (Bs : Nat) (sv : Value) (zs : List EditP) (hz : zs.length ≤ 1000000) (w : World) (hBs : Bs < w.heap.size) (hc : w.cell? ⟨Bs, 0, none⟩ = some sv) (hI : EditsIn w.heap.size w sv zs) :
    Calls Try.prog 58 #[.slice none 0 0, .func (.func 55) #[] #[.pointer (some ⟨Bs, 0, none⟩)]] w fun e W' =>
      ∃ v, e = .returned v ∧ W'.ownsRow w.heap.size 50 3 v zs.length (editCells zs) ∧ Below w.heap.size w W' := by
  refine (callsIn_wide (n := 10)).1 ?_
  obtain ⟨i0, hi, hz0, hz1, hz2⟩ := info_parts infoEdit
  refine callsIn_of_wp_marks Try.func58 rfl trivial ?_ rfl
  simp only [Try.ntmps58, List.size_toArray, List.length_cons, List.length_nil, Nat.reduceAdd, Nat.reduceSub, Array.replicate_succ, Array.replicate_zero, List.push_toArray, List.append_toArray, List.nil_append, List.cons_append]
  gi_wp2
  have bO := Boxed.new w 30 (.slice none 0 0)
  have hB0 : Below w.heap.size w (w.alloc (.cells #[.slice none 0 0] 30)) := (Below.refl _ w).alloc (Nat.le_refl _) _
  refine wpIn_rangeFunc_ownH rfl (by decide) (gf := 55) (lb := #[.pointer (some ⟨Bs, 0, none⟩)]) rfl trivial (enters_of Try.func55 (by kernel_rfl) rfl)
    (values_stops 9 (by decide) Bs w.heap.size sv zs hz _ (by simp; omega) (by simp) ((hB0.cell (p := ⟨Bs, 0, none⟩) hBs).trans hc) (hI.below hB0)) belowK_t (belowK_b (by simp)) (Below.refl _ _) (fun _ => rfl)
    (fun pre W => (∃ v, Boxed W w.heap.size 30 v ∧ W.ownsRow w.heap.size 50 3 v pre.length (editCells pre) ∧ True) ∧ Below w.heap.size w W)
    (fun _ _ _ => False)
    (OwnFrom.and (Own.from (holdsRow_own w.heap.size w.heap.size 30 50 3 (fun (pre : List EditP) => pre.length) (fun pre => editCells pre) (fun _ _ => True)) _) (ownFrom_below (Nat.le_refl _) (by simp)))
    (fun _ _ _ _ _ hs _ _ => hs)
    ⟨⟨_, bO, World.ownsRow_nil _ _ _ _, trivial⟩, hB0⟩
    (fun x a' W => ∃ Bx, W.heap[Bx]? = some (.cells #[.int .i64 x.fr, .int .i64 x.to, .string x.text] 50 (0, 0)) ∧ a' = { tmps := #[.slice none 0 0, .func (.func 55) #[] #[.pointer (some ⟨Bs, 0, none⟩)], .pointer (some ⟨w.heap.size, 0, none⟩), undef, .slice none 0 0, .pointer (some ⟨Bx, 0, none⟩), .func (.func 55) #[] #[.pointer (some ⟨Bs, 0, none⟩)], .agg #[.int .i64 x.fr, .int .i64 x.to, .string x.text], undef, undef, undef, undef, undef], defers := [] })
    (fun x a' _ X Y row hs hg hr => by obtain ⟨Bx, h2, h3⟩ := hs; exact ⟨Bx, obj_own Bx _ _ () X Y row h2 hg (fun r e => (hr r e).2), h3⟩)
    ?assign ?body ?done ?stop
  case assign =>
    rintro l pre x W K ⟨⟨v, hv, hrow, -⟩, hB⟩ hK
    have hyv : (encE x).toArray = #[.int .i64 x.fr, .int .i64 x.to, .string x.text] := rfl
    simp only [hyv]
    gi_wp2
    exact hK _ _ ((KeepsOthers.alloc _ _).from _) ((Below.refl _ W).alloc hB.size _) ⟨⟨v, hv.alloc _, hrow.alloc _, trivial⟩, hB.alloc hB.size _⟩ ⟨W.heap.size, heap_alloc_new _ _, rfl⟩
  case body =>
    rintro l pre x a' W hl ⟨r, hr⟩ ⟨⟨v, hv, hrow, -⟩, hB⟩ ⟨Bx, hBx, rfl⟩ hlt
    have hc := hv.cell
    have c0 : W.cell? ⟨Bx, 0, none⟩ = some (.int .i64 x.fr) := by simp [World.cell?, hBx]
    have c1 : W.cell? ⟨Bx, 1, none⟩ = some (.int .i64 x.to) := by simp [World.cell?, hBx]
    have c2 : W.cell? ⟨Bx, 2, none⟩ = some (.string x.text) := by simp [World.cell?, hBx]
    gi_wp2_with (gi_at_builtin; refine wpListIn_append_own _ rfl _ _ 30 rfl w.heap.size 50 i0 (.agg #[.int .i64 0, .int .i64 0, .string ⟨#[]⟩]) 3 32 Try.underlying30 hi hz0 hz1 hz2 rfl (by decide) _ _ _ rfl (hrow.alloc _) ⟨W.heap.size, 0, none⟩ 1 1 [.int .i64 x.fr, .int .i64 x.to, .string x.text] rfl rfl (new_three _ _ _ _ _) (by simp [Value.oneCell']) (by unfold maxLen; omega) (by omega) (by have := hB.size; simp; omega) ?_; intro v' w1 hown' hgrow _; obtain ⟨g', cap', rfl⟩ := ownsRow_succ hown'; obtain ⟨hv1, hv2, hr2, hk2, hb2⟩ := hv.appended (by decide) hrow hB.size (Nat.le_refl _) hown' hgrow; have hc1 := hv1.cell; have hf1 := hv1.frozen)
    exact ⟨hk2.from _, hb2, ⟨_, hv2, by rw [editCells_snoc]; simpa [encE] using hr2, trivial⟩, hB.trans hb2⟩
  case done =>
    rintro D ys W hD rfl ⟨⟨v, hv, hrow, -⟩, hB⟩ hK
    have hc := hv.cell
    gi_wp2
    refine ⟨by simp, .inl ⟨_, _, rfl, run_takeDeferred hK, ?_⟩⟩
    exact ⟨_, results_tmp rfl _ _ _, v, rfl, ownsRow_putObj hrow _ hK rfl, hB.trans (belowK_b (w := w) (Nat.le_refl _) W D _ _ (by simp at hD; omega) hK rfl rfl)⟩
  case stop =>
    rintro D c pre W _ _ h _
    exact h.elim
end
end Go.Proofs.Ytkhpoeolnhfflaa
