/-
  stetref00.CopyEdits, edit.Move, great: what they answer. Conditions: sizes within a million.
-/
import Derived.Test.YtkhpoeolnhfflaaEditSort
import Derived.OwnWalk
set_option linter.unusedSimpArgs false
set_option linter.unusedVariables false
namespace Go.Proofs.Ytkhpoeolnhfflaa
open Go.Shelf Go.RowKit Go.Lib Go.Sort

/-- An edit of a text of at most a million bytes. -/
structure EdB (e : EditP) : Prop where
  fr : 0 ≤ e.fr
  ft : e.fr ≤ e.to
  to : e.to ≤ 1000000
  text : e.text.size ≤ 1000000
/-- How far an edit moves an offset. -/
def dl (o : Int) (e : EditP) : Int := if e.fr < o ∨ e.to ≤ o then (e.text.size : Int) - (min e.to o - e.fr) else 0
def moveP (l : List EditP) (o : Int) : Int := o + (l.map (dl o)).sum
theorem dl_bound {o : Int} {e : EditP} (h : EdB e) (ho : 0 ≤ o) : -1000000 ≤ dl o e ∧ dl o e ≤ 1000000 := by
  obtain ⟨h1, h2, h3, h4⟩ := h
  unfold dl
  split <;> omega
theorem sum_bound {o : Int} (ho : 0 ≤ o) : ∀ l : List EditP, (∀ e ∈ l, EdB e) → -1000000 * (l.length : Int) ≤ (l.map (dl o)).sum ∧ (l.map (dl o)).sum ≤ 1000000 * (l.length : Int)
  | [], _ => by simp
  | x :: t, h => by
    have ih := sum_bound ho t (fun e he => h e (List.mem_cons_of_mem _ he))
    have := dl_bound (h x (by simp)) ho
    simp only [List.map_cons, List.sum_cons, List.length_cons]
    omega
theorem sum_take (o : Int) (l : List EditP) (k : Nat) (h : k < l.length) : ((l.take (k + 1)).map (dl o)).sum = ((l.take k).map (dl o)).sum + dl o l[k] := by
  rw [List.take_succ_eq_append_getElem h, List.map_append, List.sum_append]; simp

set_option maxRecDepth 100000 in
set_option maxHeartbeats 4000000 in
theorem move_any (a : Option Addr) (cap : Nat) (l : List EditP) (hl : l.length ≤ 1000) (hb : ∀ e ∈ l, EdB e) (o : Int) (ho : 0 ≤ o) (ho2 : o ≤ 1000000) (w : World) (hI : EditsIn w.heap.size w (.slice a l.length cap) l) :
    Calls Try.prog 36 #[.slice a l.length cap, .int .i64 o] w fun e w' => e = .returned (.int .i64 (moveP l o)) ∧ Below w.heap.size w w' := by
  have HI := Lib.hid hI
  have HB := Lib.hid hb
  clear hI hb
  go_enter Try.func36, Try.ntmps36
  go_wp2
  go_loopw [5, 11] (fun mv iv wr => ∃ k : Nat, k ≤ l.length ∧ iv = .int .i64 k ∧ mv = .int .i64 (o + ((l.take k).map (dl o)).sum) ∧ Below w.heap.size w wr) (fun _ iv _ => l.length - (RowKit.intOf iv).toNat)
  case atStart => exact ⟨0, Nat.zero_le _, rfl, by simp, Below.refl _ _⟩
  case round =>
    obtain ⟨k, hk, rfl, rfl, hbw⟩ := hrel
    by_cases hlt : k < l.length
    · have hlt' : (k : Int) < (l.length : Int) := by omega
      have hST := Lib.hid (sum_take o l k hlt)
      obtain ⟨s1, s2⟩ := sum_bound ho (l.take k) (fun e he => HB.out e (List.mem_of_mem_take he))
      obtain ⟨b1, b2, b3, b4⟩ := HB.out l[k] (List.getElem_mem hlt)
      obtain ⟨a', cap', hv, hr⟩ := HI.out.below hbw
      obtain ⟨g, off, rfl, hg, hc⟩ := hr (by intro e; subst e; simp at hlt)
      injection hv with hv1 hv2 hv3
      subst hv1
      obtain ⟨c0, c1, c2⟩ := hc k hlt
      have hzw := hbw.size
      have hlk : ((l.take k).length : Int) ≤ 1000 := by simp; omega
      generalize ((l.take k).map (dl o)).sum = sm at *
      have hDL : RowKit.Hid (dl o l[k] = if l[k].fr < o ∨ l[k].to ≤ o then (l[k].text.size : Int) - (min l[k].to o - l[k].fr) else 0) := rfl
      clear hr hc hv3
      generalize hek : l[k] = e at *
      obtain ⟨x0, x1, x2⟩ := e
      simp only at c0 c1 c2 b1 b2 b3 b4
      have hM : ∀ d : Int, (x0 < o ∨ x1 ≤ o → d = (x2.size : Int) - (min x1 o - x0)) → (¬ (x0 < o ∨ x1 ≤ o) → d = 0) → o + sm + d = o + ((l.take (k + 1)).map (dl o)).sum := fun d h1 h2 => by
        rw [hST.out, hDL.out]
        simp only
        split
        · rename_i h; rw [h1 h]; omega
        · rename_i h; rw [h2 h]; omega
      have HM := Lib.hid hM
      clear hM
      by_cases h1 : x1 ≤ o
      · by_cases h0 : x0 < o
        · go_wp2_with fail
          go_roundw
          case rel => exact ⟨k + 1, by omega, by go_num, congrArg (Value.int .i64) (HM.out _ (fun _ => rfl) (fun h => absurd (.inl h0) h)), hbw.alloc hzw _⟩
          case measure => simp [RowKit.intOf]; omega
        · go_wp2_with fail
          go_roundw
          case rel => exact ⟨k + 1, by omega, by go_num, congrArg (Value.int .i64) (HM.out _ (fun _ => rfl) (fun h => absurd (.inr h1) h)), hbw.alloc hzw _⟩
          case measure => simp [RowKit.intOf]; omega
      · by_cases h0 : x0 < o
        · go_wp2_with fail
          go_roundw
          case rel => exact ⟨k + 1, by omega, by go_num, congrArg (Value.int .i64) (HM.out _ (fun _ => rfl) (fun h => absurd (.inl h0) h)), hbw.alloc hzw _⟩
          case measure => simp [RowKit.intOf]; omega
        · go_wp2_with fail
          go_roundw
          case rel => exact ⟨k + 1, by omega, by go_num, by rw [← HM.out 0 (fun h => by omega) (fun _ => rfl)]; simp, hbw.alloc hzw _⟩
          case measure => simp [RowKit.intOf]; omega
    · obtain rfl : k = l.length := by omega
      go_wp2
      go_ret
      exact ⟨by rw [List.take_length]; rfl, hbw⟩

/-- The cells of a row of edits, one by one. -/
theorem editsIn_cells {n : Nat} {w : World} {ad : Addr} {cap : Nat} {l : List EditP} (h : EditsIn n w (.slice (some ad) l.length cap) l) : ∀ j u, (editCells l)[j]? = some u → w.cell? (ad.add j) = some u := by
  intro j u hu
  have hj : j < l.length * 3 := by
    have := (List.getElem?_eq_some_iff.1 hu).1
    rwa [editCells_length] at this
  obtain ⟨a', cap', hv, hr⟩ := h
  injection hv with hv1
  obtain ⟨g, off, e1, hg, hc⟩ := hr (by intro e; subst e; simp at hj)
  subst hv1
  injection e1 with e1
  subst e1
  rw [Addr.add_lit]
  rw [editCells_get l j hj, List.getElem?_eq_getElem (show j / 3 < l.length by omega)] at hu
  obtain ⟨c0, c1, c2⟩ := hc (j / 3) (by omega)
  simp only [Option.getD_some, Option.some.injEq] at hu
  have h3 : j % 3 = 0 ∨ j % 3 = 1 ∨ j % 3 = 2 := by omega
  rcases h3 with h | h | h
  · rw [h] at hu; rw [show off + j = off + j / 3 * 3 by omega, c0, ← hu]; rfl
  · rw [h] at hu; rw [show off + j = off + j / 3 * 3 + 1 by omega, c1, ← hu]; rfl
  · rw [h] at hu; rw [show off + j = off + j / 3 * 3 + 2 by omega, c2, ← hu]; rfl
theorem editCells_one (l : List EditP) : ∀ u ∈ editCells l, u.oneCell' = true := by
  intro u hu
  obtain ⟨x, _, hx⟩ := List.mem_flatMap.1 hu
  exact one_encE x u hx
theorem editsIn_of_owns {w : World} {base : Nat} {v : Value} {l : List EditP} (h : w.ownsRow base 50 3 v l.length (editCells l)) : ∃ a' cap', v = .slice a' l.length cap' ∧ EditsIn w.heap.size w v l := by
  rcases h.2 with ⟨rfl, h0⟩ | ⟨g, cap, cur, rfl, hg, hcell, h4, h5, h6, h7⟩
  · obtain rfl := List.length_eq_zero_iff.1 h0
    exact ⟨none, 0, rfl, none, 0, rfl, fun h => absurd rfl h⟩
  · obtain ⟨hH, hgl, _⟩ := holdsE_of_owns h
    exact ⟨_, _, rfl, editsIn_of_holds cap hH hgl⟩

set_option maxRecDepth 100000 in
set_option maxHeartbeats 4000000 in
theorem copyEdits_any (a : Option Addr) (cap : Nat) (l : List EditP) (hl : l.length ≤ 1000000) (w : World) (hI : EditsIn w.heap.size w (.slice a l.length cap) l) :
    Calls Try.prog 25 #[.slice a l.length cap] w fun e w' => (∃ a' cap', e = .returned (.slice a' l.length cap') ∧ EditsIn w'.heap.size w' (.slice a' l.length cap') l) ∧ Below w.heap.size w w' := by
  obtain ⟨i0, hi, hz0, hz1, hz2⟩ := info_parts infoEdit
  have HI := Lib.hid hI
  have hN : Below w.heap.size w (w.alloc (.cells #[] 50)) := (Below.refl _ w).alloc (Nat.le_refl _) _
  have hown : (w.alloc (.cells #[] 50)).ownsRow w.heap.size 50 3 (.slice (some ⟨w.heap.size, 0, none⟩) 0 0) 0 [] := ⟨rfl, .inr ⟨w.heap.size, 0, #[], rfl, Nat.le_refl _, heap_alloc_new w _, Nat.le_refl _, by decide, rfl, rfl⟩⟩
  rcases a with _ | ad
  · have h0 : l = [] := by
      apply Classical.byContradiction
      intro hne
      obtain ⟨a', cap', hv, hr⟩ := hI
      obtain ⟨g, off, rfl, _⟩ := hr hne
      simp at hv
    subst h0
    go_enter Try.func25, Try.ntmps25
    go_wp2_with fail
    go_ret
    exact ⟨⟨_, _, rfl, ⟨_, _, rfl, fun h => absurd rfl h⟩⟩, hN⟩
  · have hcs := editsIn_cells (hI.below hN)
    have hcl := editCells_length l
    have hone := editCells_one l
    have b1 : 0 + l.length ≤ maxLen := by unfold maxLen; omega
    have b2 : (0 + l.length) * 32 ≤ 140737488355328 := by omega
    have b3 : w.heap.size ≤ (w.alloc (.cells #[] 50)).heap.size := by simp
    clear hI
    go_enter Try.func25, Try.ntmps25
    go_wp2_with (at_builtin; (refine wpList_append_own _ rfl _ _ 30 rfl w.heap.size 50 i0 (.agg #[.int .i64 0, .int .i64 0, .string ⟨#[]⟩]) 3 32 Try.underlying30 hi hz0 hz1 hz2 rfl (by decide) _ _ _ rfl hown ad l.length cap (editCells l) rfl hcl hcs hone b1 b2 b3 ?_); intro v' w4 hown' hgrow _)
    go_ret
    rw [Nat.zero_add, List.nil_append] at hown'
    obtain ⟨a', cap', rfl, hE⟩ := editsIn_of_owns hown'
    exact ⟨⟨_, _, rfl, hE⟩, hN.grown hgrow (by simp) (fun kk hk => (ownsRow_lt hown hk).1)⟩
end Go.Proofs.Ytkhpoeolnhfflaa
