/-
  edit.Sorted: a new row, in order, equal ones as they stood. Conditions: at most 1000000 edits.
-/
import Derived.Test.YtkhpoeolnhfflaaEditSeq
set_option linter.unusedSimpArgs false
set_option linter.unusedVariables false
namespace Go.Proofs.Ytkhpoeolnhfflaa
open Go.Shelf Go.RowKit Go.Lib Go.Sort

theorem cmpLaysE (blk off n : Nat) (w : World) : CmpLays Try.prog 47 #[] encE 3 cfE blk off n w := fun m os dk _ x y => by
  rw [Array.append_empty]
  exact cmpE_any x y _

theorem editCells_get : ∀ (l : List EditP) (j : Nat), j < l.length * 3 → (editCells l)[j]? = some (encE (l[j / 3]?.getD default))[j % 3]!
  | [], j, h => by simp at h
  | x :: t, j, h => by
    have ht : editCells (x :: t) = encE x ++ editCells t := by simp [editCells]
    rw [ht]
    by_cases hj : j < 3
    · rw [List.getElem?_append_left (by simpa [encE] using hj), show j / 3 = 0 by omega, show j % 3 = j by omega]
      have : j = 0 ∨ j = 1 ∨ j = 2 := by omega
      rcases this with rfl | rfl | rfl <;> rfl
    · rw [List.getElem?_append_right (by simp [encE]; omega), show (encE x).length = 3 from rfl, editCells_get t (j - 3) (by simp at h; omega), show j / 3 = (j - 3) / 3 + 1 by omega, show j % 3 = (j - 3) % 3 by omega]
      simp
/-- What an own row holds, as the sort wants it. -/
theorem holdsE_of_owns {w : World} {base g cap : Nat} {l : List EditP} (h : w.ownsRow base 50 3 (.slice (some ⟨g, 0, none⟩) l.length cap) l.length (editCells l)) : HoldsK encE 3 w g 0 l.toArray ∧ g < w.heap.size ∧ base ≤ g := by
  obtain ⟨_, ⟨h, _⟩ | ⟨g', cap', cur, h1, h2, h3, h4, h5, h6, h7⟩⟩ := h
  · cases h
  · injection h1 with h1 h1a h1b
    injection h1 with h1
    injection h1 with h1
    subst h1 h1b
    refine ⟨?_, (Array.getElem?_eq_some_iff.1 h3).1, h2⟩
    intro j hj
    rw [size_flatK] at hj
    have hj' : j < l.length * 3 := by simpa using hj
    rw [get_flatK _ _ _ _ hj]
    have hcj : (editCells l)[j]? = some (encE l.toArray[j / 3]!)[j % 3]! := by
      rw [editCells_get l j hj', getElem!_pos l.toArray (j / 3) (by simp; omega)]
      simp [show j / 3 < l.length by omega]
    have hcur : cur[j]? = some (encE l.toArray[j / 3]!)[j % 3]! := by
      rw [← hcj, ← h7, List.getElem?_take_of_lt hj', Array.getElem?_toList]
    constructor
    · simp [World.cell?, h3, hcur]
    · simp [World.frozen?, h3]
/-- .. and back. -/
theorem editsIn_of_holds {w : World} {n g : Nat} {l : List EditP} (cap : Nat) (h : HoldsK encE 3 w g 0 l.toArray) (hg : g < n) : EditsIn n w (.slice (some ⟨g, 0, none⟩) l.length cap) l := by
  refine ⟨_, _, rfl, fun _ => ⟨g, 0, rfl, hg, fun j hj => ?_⟩⟩
  have g0 : ∀ c, c < 3 → w.cell? ⟨g, 0 + j * 3 + c, none⟩ = some (encE l[j])[c]! := fun c hc => by
    have := (h (j * 3 + c) (by rw [size_flatK]; simp; omega)).1
    rw [get_flatK _ _ _ _ (by simp; omega), show (j * 3 + c) / 3 = j by omega, show (j * 3 + c) % 3 = c by omega, ← Nat.add_assoc] at this
    rw [getElem!_pos l.toArray j (by simpa using hj)] at this
    simpa using this
  exact ⟨g0 0 (by omega), g0 1 (by omega), g0 2 (by omega)⟩
/-- The sort turns nothing below its own row. -/
theorem below_swk {B : Nat} {w0 W : World} {blk : Nat} {d : Array EditP} (h : SWK encE 3 w0 blk 0 d W) (hB : B ≤ blk) (hB0 : B ≤ w0.heap.size) : Below B w0 W := by
  obtain ⟨n, os, rfl⟩ := h
  unfold sortWorldK
  have h1 : Below B w0 (putRowK encE 3 (Sort.ahead w0 n) blk 0 d) := ⟨rfl, rfl, rfl, by rw [size_putRowK]; exact Nat.le_refl _, fun k hk => by
    simp [putRowK, putRow, mapBlock, Sort.ahead, Array.getElem?_modify, show blk ≠ k by omega]⟩
  refine ⟨h1.os, h1.tape, h1.output, ?_, fun k hk => ?_⟩
  · rw [size_grow, size_putRowK]; exact Nat.le_add_right _ _
  · rw [← h1.block k hk]
    have := size_putRowK encE 3 (Sort.ahead w0 n) blk 0 d
    simp only [grow]
    rw [Array.getElem?_append_left (by rw [this]; show k < w0.heap.size; omega)]

/-- A slice's block, if it has one, is a row of edits. -/
def RowT (w : World) (a : Option Addr) : Prop := ∀ ad, a = some ad → ∃ c fz, w.heap[ad.block]? = some (.cells c 50 fz)
theorem RowT.below {w w' : World} {a : Option Addr} (h : RowT w a) (hb : Below w.heap.size w w') : RowT w' a := fun ad he => by
  obtain ⟨c, fz, hc⟩ := h ad he
  exact ⟨c, fz, (hb.block _ (Array.getElem?_eq_some_iff.1 hc).1).trans hc⟩
theorem swk_typed {w0 W : World} {blk : Nat} {d : Array EditP} {cur : Array Value} {T : TypeId} {F : Nat × Nat} (h : SWK encE 3 w0 blk 0 d W) (hc : w0.heap[blk]? = some (.cells cur T F)) : ∃ cur', W.heap[blk]? = some (.cells cur' T F) := by
  obtain ⟨n, os, rfl⟩ := h
  have hlt := (Array.getElem?_eq_some_iff.1 hc).1
  unfold sortWorldK
  have hs := size_putRowK encE 3 (Sort.ahead w0 n) blk 0 d
  simp only [grow]
  rw [Array.getElem?_append_left (by rw [hs]; exact hlt)]
  have hc' : (Sort.ahead w0 n).heap[blk]? = some (.cells cur T F) := hc
  refine ⟨putCells id 0 (flatK encE 3 d) cur, ?_⟩
  unfold putRowK putRow mapBlock
  simp only [Array.getElem?_modify, if_true, hc']
  rfl

set_option maxRecDepth 100000 in
set_option maxHeartbeats 2000000 in
theorem insNone_any (fv : Value) (w : World) : Calls Try.prog 60 #[.slice none 0 0, .int .i64 0, .int .i64 0, fv] w fun e w' => e = .returned (.tuple #[]) ∧ w' = w := by
  go_enter Try.func60, Try.ntmps60
  go_wp2
  refine wp_loop_rounds 1 ?_
  rw [rounds_succ]
  go_wp2
  go_end0
  exact ⟨rfl, rfl⟩

set_option maxRecDepth 100000 in
set_option maxHeartbeats 2000000 in
theorem stableNone_any (fv : Value) (w : World) : Calls Try.prog 59 #[.slice none 0 0, .int .i64 0, fv] w fun e w' => e = .returned (.tuple #[]) ∧ w' = w := by
  go_enter Try.func59, Try.ntmps59
  go_wp2
  refine wp_loop_rounds 1 ?_
  rw [rounds_succ]
  go_wp2_with fail
  refine (insNone_any _ _).mono ?_
  rintro e w1 ⟨rfl, rfl⟩
  go_wp2_with fail
  refine wp_loop_rounds 1 ?_
  rw [rounds_succ]
  go_wp2
  go_end0
  exact ⟨rfl, rfl⟩

set_option maxRecDepth 100000 in
set_option maxHeartbeats 2000000 in
theorem collect_any (Bs : Nat) (sv : Value) (zs : List EditP) (hz : zs.length ≤ 1000000) (w : World) (hBs : Bs < w.heap.size) (hc : w.cell? ⟨Bs, 0, none⟩ = some sv) (hI : EditsIn w.heap.size w sv zs) :
    Calls Try.prog 53 #[.func (.func 55) #[] #[.pointer (some ⟨Bs, 0, none⟩)]] w fun e W' =>
      ∃ v, e = .returned v ∧ W'.ownsRow w.heap.size 50 3 v zs.length (editCells zs) ∧ Below w.heap.size w W' := by
  have hAp := appendSeq_any Bs sv zs hz w hBs hc hI
  clear hc hI
  go_enter Try.func53, Try.ntmps53
  go_wp2_with fail
  refine hAp.mono ?_
  rintro e w1 ⟨v, rfl, h1, h2⟩
  go_wp2_with fail
  go_ret
  exact ⟨v, rfl, h1, h2⟩

theorem one_encE (x : EditP) : ∀ v ∈ encE x, v.oneCell' = true := by
  intro v hv
  simp only [encE, List.mem_cons, List.mem_nil_iff, or_false] at hv
  rcases hv with rfl | rfl | rfl <;> rfl

set_option maxRecDepth 100000 in
set_option maxHeartbeats 2000000 in
theorem sortStable_any (zs : List EditP) (hz : zs.length ≤ 1000000) (v : Value) (base : Nat) (w : World) (hown : w.ownsRow base 50 3 v zs.length (editCells zs)) (hb : base ≤ w.heap.size) :
    Calls Try.prog 54 #[v, .func (.func 47) #[] #[]] w fun e w' => e = .returned (.tuple #[]) ∧ (∃ a' cap', v = .slice a' zs.length cap' ∧ RowT w' a') ∧ EditsIn w'.heap.size w' v (ss ltE zs) ∧ Below base w w' := by
  by_cases h0 : zs = []
  · subst h0
    rcases hown.2 with ⟨rfl, _⟩ | ⟨g, cap, cur, rfl, hg, hcell, h4, h5, h6, h7⟩
    · go_enter Try.func54, Try.ntmps54
      go_wp2_with fail
      refine (stableNone_any _ _).mono ?_
      rintro e w1 ⟨rfl, rfl⟩
      go_wp2_with fail
      go_end0
      exact ⟨rfl, ⟨none, 0, rfl, fun _ h => by cases h⟩, ⟨none, 0, rfl, fun h => absurd rfl h⟩, Below.refl _ _⟩
    · obtain ⟨hH, hgl, hbg⟩ := holdsE_of_owns (l := []) hown
      have hS := stable_any encE 3 sortLays cfE 47 #[] g 0 cap #[] w (enters_of Try.func47 (by kernel_rfl) rfl) (cmpLaysE _ _ _ _) ⟨fun _ => rfl, one_encE, hH, hgl⟩ swoC (by simp) #[] w rfl (SWK.start hH)
      go_enter Try.func54, Try.ntmps54
      go_wp2_with fail
      refine hS.mono ?_
      rintro e w1 ⟨rfl, d', _, _, hS1⟩
      go_wp2_with fail
      go_end0
      obtain ⟨cur', hcur'⟩ := swk_typed hS1 hcell
      exact ⟨rfl, ⟨_, _, rfl, fun ad h => by injection h with h; subst h; exact ⟨_, _, hcur'⟩⟩, ⟨_, _, rfl, fun h => absurd rfl h⟩, below_swk hS1 hbg hb⟩
  · have hl : 0 < zs.length := List.length_pos_iff.2 h0
    rcases hown.2 with ⟨rfl, h⟩ | ⟨g, cap, cur, rfl, hg, hcell, h4, h5, h6, h7⟩
    · omega
    · obtain ⟨hH, hgl, hbg⟩ := holdsE_of_owns hown
      have hS := stable_any encE 3 sortLays cfE 47 #[] g 0 cap zs.toArray w (enters_of Try.func47 (by kernel_rfl) rfl) (cmpLaysE _ _ _ _) ⟨fun _ => rfl, one_encE, hH, hgl⟩ swoC (by simpa using hz) zs.toArray w rfl (SWK.start hH)
      simp only [List.size_toArray] at hS
      have HCELL := Lib.hid hcell
      clear hcell h7 h6
      go_enter Try.func54, Try.ntmps54
      go_wp2_with fail
      refine hS.mono ?_
      rintro e w1 ⟨rfl, d', hd1, hd2, hS1⟩
      go_wp2_with fail
      go_end0
      have hd3 : d' = (ss ltE zs).toArray := by
        rw [ltOf_cfE] at hd2
        rw [← Array.toArray_toList (xs := d'), hd2]
      have hsz := hS1.le
      have hHo := hS1.holds hgl hH (by simpa using hd1)
      rw [hd3] at hHo
      have := editsIn_of_holds cap hHo (show g < w1.heap.size by omega)
      rw [ss_length] at this
      obtain ⟨cur', hcur'⟩ := swk_typed hS1 HCELL.out
      exact ⟨rfl, ⟨_, _, rfl, fun ad h => by injection h with h; subst h; exact ⟨_, _, hcur'⟩⟩, this, below_swk hS1 hbg hb⟩

set_option maxRecDepth 100000 in
set_option maxHeartbeats 2000000 in
theorem sortedStable_any (Bs : Nat) (sv : Value) (zs : List EditP) (hz : zs.length ≤ 1000000) (w : World) (hBs : Bs < w.heap.size) (hc : w.cell? ⟨Bs, 0, none⟩ = some sv) (hI : EditsIn w.heap.size w sv zs) :
    Calls Try.prog 45 #[.func (.func 55) #[] #[.pointer (some ⟨Bs, 0, none⟩)], .func (.func 47) #[] #[]] w fun e w' => (∃ a' cap', e = .returned (.slice a' zs.length cap') ∧ EditsIn w'.heap.size w' (.slice a' zs.length cap') (ss ltE zs) ∧ RowT w' a') ∧ Below w.heap.size w w' := by
  have hAp := collect_any Bs sv zs hz w hBs hc hI
  clear hc hI
  go_enter Try.func45, Try.ntmps45
  go_wp2_with fail
  refine hAp.mono ?_
  rintro e w1 ⟨v, rfl, h1, h2⟩
  clear hAp
  go_wp2_with fail
  refine (sortStable_any zs hz v _ _ h1 h2.size).mono ?_
  rintro e w2 ⟨rfl, ⟨a', cap', rfl, h5⟩, h3, h4⟩
  go_wp2_with fail
  go_ret
  exact ⟨⟨a', cap', rfl, h3, h5⟩, h2.trans h4⟩

set_option maxRecDepth 100000 in
set_option maxHeartbeats 2000000 in
/-- **edit.Sorted**: a new row: the edits in order, equal ones as they stood. -/
theorem sorted_any (a : Option Addr) (cap : Nat) (zs : List EditP) (hz : zs.length ≤ 1000000) (w : World) (hI : EditsIn w.heap.size w (.slice a zs.length cap) zs) :
    Calls Try.prog 33 #[.slice a zs.length cap] w fun e w' => (∃ a' cap', e = .returned (.slice a' zs.length cap') ∧ EditsIn w'.heap.size w' (.slice a' zs.length cap') (ss ltE zs) ∧ RowT w' a') ∧ Below w.heap.size w w' := by
  have hN : Below w.heap.size w (w.alloc (.cells #[.slice a zs.length cap] 30)) := (Below.refl _ w).alloc (Nat.le_refl _) _
  have hc : (w.alloc (.cells #[.slice a zs.length cap] 30)).cell? ⟨w.heap.size, 0, none⟩ = some (.slice a zs.length cap) := by simp
  have hAp := sortedStable_any w.heap.size (.slice a zs.length cap) zs hz (w.alloc (.cells #[.slice a zs.length cap] 30)) (by simp) hc ((hI.below hN).mono (by simp))
  have hNs : (w.alloc (.cells #[.slice a zs.length cap] 30)).heap.size = w.heap.size + 1 := by simp
  have HB := Lib.hid hN
  clear hI hc hN
  go_enter Try.func33, Try.ntmps33
  go_wp2_with fail
  refine (values_any _ _ _ _).mono ?_
  rintro e w1 ⟨rfl, rfl⟩
  go_wp2_with fail
  refine hAp.mono ?_
  rintro e w2 ⟨⟨a', cap', rfl, h1, h3⟩, h2⟩
  go_wp2_with fail
  go_ret
  exact ⟨⟨a', cap', rfl, h1, h3⟩, HB.out.trans (h2.mono (by omega))⟩
end Go.Proofs.Ytkhpoeolnhfflaa
