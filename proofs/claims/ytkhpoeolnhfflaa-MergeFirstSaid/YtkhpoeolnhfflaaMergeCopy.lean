/-
  CopyFindings: a new row of findings with new rows of edits. Conditions: at most 1000 findings, 1000000 edits of each.
-/
import Derived.Test.YtkhpoeolnhfflaaMergeChoose
set_option linter.unusedSimpArgs false
set_option linter.unusedVariables false
namespace Go.Proofs.Ytkhpoeolnhfflaa
open Go.Shelf Go.RowKit Go.Lib Go.Sort

theorem infoFind : (Try.prog.info? 37).map (fun i => (i.zero, i.size, i.bytes)) = some (some (.agg #[.int .i64 0, .int .i64 0, .int .i64 0, .slice none 0 0]), 4, 48) := by kernel_rfl

set_option maxRecDepth 100000 in
set_option maxHeartbeats 4000000 in
theorem copyEditsT_any (a : Option Addr) (cap : Nat) (l : List EditP) (hl : l.length ≤ 1000000) (w : World) (hI : EditsIn w.heap.size w (.slice a l.length cap) l) :
    Calls Try.prog 25 #[.slice a l.length cap] w fun e w' => (∃ a' cap', e = .returned (.slice a' l.length cap') ∧ EditsT w' (.slice a' l.length cap') l) ∧ Below w.heap.size w w' := by
  have hN : Below w.heap.size w (w.alloc (.cells #[] 50)) := (Below.refl _ w).alloc (Nat.le_refl _) _
  have hown : (w.alloc (.cells #[] 50)).ownsRow w.heap.size 50 3 (.slice (some ⟨w.heap.size, 0, none⟩) 0 0) ([] : List EditP).length (editCells []) := ⟨rfl, .inr ⟨w.heap.size, 0, #[], rfl, Nat.le_refl _, heap_alloc_new w _, Nat.le_refl _, by decide, rfl, rfl⟩⟩
  have hI1 := hI.below hN
  clear hI
  go_enter Try.func25, Try.ntmps25
  go_wp2_with (at_builtin; (refine wpList_append_edits rfl _ _ rfl w.heap.size _ [] rfl hown a l cap rfl hI1 (by simp) hl (by simp) ?_); intro v' w4 hown' hgrow; rw [List.nil_append] at hown'; obtain ⟨a', cap', rfl, -⟩ := ownsRow_slice hown')
  go_ret
  exact ⟨⟨_, _, rfl, editsT_of_owns hown'⟩, hN.grown hgrow (by simp) (fun kk hk => (ownsRow_lt hown hk).1)⟩

/-- A finding's cells, over the slice that holds its edits. -/
def findC (r : FindP × Value) : List Value := [.int .i64 r.1.rule, .int .i64 r.1.fr, .int .i64 r.1.to, r.2]
def findCells (l : List (FindP × Value)) : List Value := l.flatMap findC
theorem findCells_snoc (l : List (FindP × Value)) (x : FindP × Value) : findCells (l ++ [x]) = findCells l ++ findC x := by simp [findCells]
theorem findCells_get : ∀ (l : List (FindP × Value)) (j : Nat) (h : j < l.length) (c : Nat), c < 4 → (findCells l)[j * 4 + c]? = (findC l[j])[c]?
  | x :: t, 0, _, c, hc => by
    have ht : findCells (x :: t) = findC x ++ findCells t := by simp [findCells]
    rw [ht, List.getElem?_append_left (by simp [findC]; omega)]; simp
  | x :: t, j + 1, h, c, hc => by
    have ht : findCells (x :: t) = findC x ++ findCells t := by simp [findCells]
    rw [ht, List.getElem?_append_right (by simp [findC]; omega), show (j + 1) * 4 + c - (findC x).length = j * 4 + c by simp [findC]; omega, findCells_get t j (by simpa using h) c hc]
    simp
/-- What an own row of findings holds. -/
theorem findsIn_of_owns {w : World} {base : Nat} {v : Value} {rs : List (FindP × Value)} (h : w.ownsRow base 37 4 v rs.length (findCells rs)) (hE : ∀ r ∈ rs, EditsT w r.2 r.1.edits) : FindsIn w.heap.size w v (rs.map Prod.fst) := by
  rcases h.2 with ⟨rfl, h0⟩ | ⟨g, cap, cur, rfl, hg, hh, hc, hm, hs, ht⟩
  · obtain rfl := List.length_eq_zero_iff.1 h0
    exact ⟨none, 0, rfl, fun h => absurd rfl h⟩
  · refine ⟨_, cap, by rw [List.length_map], fun _ => ⟨g, 0, rfl, (Array.getElem?_eq_some_iff.1 hh).1, fun j hj => ?_⟩⟩
    have hj' : j < rs.length := by simpa using hj
    have cellAt : ∀ c, c < 4 → w.cell? ⟨g, 0 + j * 4 + c, none⟩ = (findC rs[j])[c]? := fun c hc4 => by
      have h1 := findCells_get rs j hj' c hc4
      rw [← ht, List.getElem?_take_of_lt (by omega)] at h1
      simp only [World.cell?, hh]
      rw [← h1]; simp
    obtain ⟨hI, a, ca, hv, -⟩ := hE rs[j] (List.getElem_mem hj')
    have hf : (rs.map Prod.fst)[j] = rs[j].1 := by simp
    rw [hf]
    refine ⟨by simpa [findC] using cellAt 0 (by omega), by simpa [findC] using cellAt 1 (by omega), by simpa [findC] using cellAt 2 (by omega), a, ca, ?_, hv ▸ hI⟩
    rw [← hv]
    simpa [findC] using cellAt 3 (by omega)

theorem new_four (w : World) (T : TypeId) (a b c d : Value) : ∀ j u, ([a, b, c, d] : List Value)[j]? = some u → (w.alloc (.cells #[a, b, c, d] T)).cell? ((⟨w.heap.size, 0, none⟩ : Addr).add j) = some u := by
  intro j u hu
  rw [Addr.add_lit, Nat.zero_add, World.cell?_alloc_new]
  simpa using hu
theorem new_four' (w : World) (T : TypeId) (a b c d : Value) (L : Nat) (hL : L = w.heap.size) : ∀ j u, ([a, b, c, d] : List Value)[j]? = some u → (w.alloc (.cells #[a, b, c, d] T)).cell? ((⟨L, 0, none⟩ : Addr).add j) = some u := by
  subst hL; exact new_four w T a b c d
theorem set_fourth {w : World} {L : Nat} {a b c d x : Value} {T : TypeId} (h : w.heap[L]? = some (.cells #[a, b, c, d] T)) : (w.setCell ⟨L, 3, none⟩ x).heap[L]? = some (.cells #[a, b, c, x] T) := by
  simp [World.setCell, Array.getElem?_modify, h]
theorem block_four' {w : World} {L : Nat} {a b c d : Value} {T : TypeId} (h : w.heap[L]? = some (.cells #[a, b, c, d] T)) :
    w.cell? ⟨L, 0, none⟩ = some a ∧ w.cell? ⟨L, 1, none⟩ = some b ∧ w.cell? ⟨L, 2, none⟩ = some c ∧ w.cell? ⟨L, 3, none⟩ = some d ∧ w.frozen? ⟨L, 3, none⟩ = false := by
  simp [World.cell?, World.frozen?, h]
theorem one_four (a b c : Int) (x : Option Addr) (n m : Nat) : ∀ u ∈ [Value.int .i64 a, .int .i64 b, .int .i64 c, .slice x n m], u.oneCell' = true := by
  intro u hu
  simp only [List.mem_cons, List.mem_nil_iff, or_false] at hu
  rcases hu with rfl | rfl | rfl | rfl <;> rfl

set_option maxRecDepth 100000 in
set_option maxHeartbeats 8000000 in
/-- (The row that it makes is the caller's own.) -/
theorem copyFindings_own (a : Option Addr) (cap : Nat) (l : List FindP) (hl : l.length ≤ 1000) (he : ∀ f ∈ l, f.edits.length ≤ 1000000) (w : World) (hI : FindsIn w.heap.size w (.slice a l.length cap) l) :
    Calls Try.prog 15 #[.slice a l.length cap] w fun e w' => (∃ v rs, e = .returned v ∧ w'.ownsRow w.heap.size 37 4 v rs.length (findCells rs) ∧ rs.map Prod.fst = l ∧ ∀ r ∈ rs, EditsT w' r.2 r.1.edits) ∧ Below w.heap.size w w' := by
  have HI := Lib.hid hI
  have HE := Lib.hid he
  obtain ⟨i0, hi, hz0, hz1, hz2⟩ := info_parts infoFind
  have mixed : Try.prog.follows Departure.mixedOrders = true := rfl
  have hN : Below w.heap.size w (w.alloc (.cells #[] 37)) := (Below.refl _ w).alloc (Nat.le_refl _) _
  have hown : (w.alloc (.cells #[] 37)).ownsRow w.heap.size 37 4 (.slice (some ⟨w.heap.size, 0, none⟩) 0 0) ([] : List (FindP × Value)).length (findCells []) := ⟨rfl, .inr ⟨w.heap.size, 0, #[], rfl, Nat.le_refl _, heap_alloc_new w _, Nat.le_refl _, by decide, rfl, rfl⟩⟩
  clear hI he
  go_enter Try.func15, Try.ntmps15
  go_wp2
  go_loopw [3, 4, 5] (fun ov iv _ wr => ∃ (k : Nat) (rs : List (FindP × Value)), k ≤ l.length ∧ iv = .int .i64 k ∧ wr.ownsRow w.heap.size 37 4 ov rs.length (findCells rs) ∧ Below w.heap.size w wr ∧ rs.length ≤ k ∧ RowKit.Hid (rs.map Prod.fst = l.take k) ∧ RowKit.Hid (∀ r ∈ rs, EditsT wr r.2 r.1.edits)) (fun _ iv _ _ => l.length - (RowKit.intOf iv).toNat)
  case atStart => exact ⟨0, [], Nat.zero_le _, rfl, hown, hN, Nat.le_refl _, rfl, (fun r hr => by cases hr)⟩
  case round =>
    clear hN hown
    obtain ⟨k, rs, hk, rfl, hoR, hbw, hrl, HM, HR⟩ := hrel
    have zw := hbw.size
    obtain ⟨aR, cR, rfl, -⟩ := ownsRow_slice hoR
    by_cases hlt : k < l.length
    · have hlt' : (k : Int) < (l.length : Int) := by omega
      have hel := HE.out l[k] (List.getElem_mem hlt)
      obtain ⟨g, off, rfl, hg, -, hc⟩ := (HI.out.below hbw).at hlt
      obtain ⟨c0, c1, c2, aE, cE, c3, hE⟩ := hc k hlt
      clear hc
      have HTK : RowKit.Hid (∀ v, (rs ++ [(l[k], v)]).map Prod.fst = l.take (k + 1)) := fun v => by
        rw [List.map_append, HM.out, List.take_succ_eq_append_getElem hlt]; rfl
      generalize l[k] = f at *
      obtain ⟨x0, x1, x2, x3⟩ := f
      simp only at c0 c1 c2 c3 hE hel
      have hN := heap_alloc_new wr (.cells #[.int .i64 x0, .int .i64 x1, .int .i64 x2, .slice aE x3.length cE] 37)
      have hNB : Below wr.heap.size wr (wr.alloc (.cells #[.int .i64 x0, .int .i64 x1, .int .i64 x2, .slice aE x3.length cE] 37)) := (Below.refl _ wr).alloc (Nat.le_refl _) _
      have hNz : (wr.alloc (.cells #[.int .i64 x0, .int .i64 x1, .int .i64 x2, .slice aE x3.length cE] 37)).heap.size = wr.heap.size + 1 := by simp
      have hkC := copyEditsT_any aE cE x3 hel _ ((hE.below (hNB.mono zw)).mono (by omega))
      have HB1 := Lib.hid hNB
      have HN := Lib.hid hN
      clear hN hNB hE
      go_wp2_with fail
      refine hkC.mono ?_
      clear hkC
      rintro e w2 ⟨⟨a', c', rfl, hT2⟩, b2⟩
      have z2 := b2.size
      have hS2 : w2.heap[wr.heap.size]? = some (.cells #[.int .i64 x0, .int .i64 x1, .int .i64 x2, .slice aE x3.length cE] 37) := (b2.block _ (by omega)).trans HN.out
      have hB2 := HB1.out.trans (b2.mono (by omega))
      obtain ⟨e0, e1, e2, e3, hfz⟩ := block_four' hS2
      have hS3 := set_fourth (x := .slice a' x3.length c') hS2
      have hB3 : Below wr.heap.size wr (w2.setCell ⟨wr.heap.size, 3, none⟩ (.slice a' x3.length c')) := hB2.setCell (p := ⟨wr.heap.size, 3, none⟩) (Nat.le_refl _) _
      have hR3 := ownsRow_below hoR hB3
      have hT3 : EditsT (w2.setCell ⟨wr.heap.size, 3, none⟩ (.slice a' x3.length c')) (.slice a' x3.length c') x3 := hT2.grown (row := some wr.heap.size) (T := 37) ⟨rfl, rfl, rfl, by simp, fun i _ hi => Below.heap_setCell _ _ _ _ (fun e => hi (by rw [e]))⟩ (by decide) (fun kk hk => by cases hk; exact ⟨_, _, hS2⟩)
      have hz3 : (w2.setCell ⟨wr.heap.size, 3, none⟩ (.slice a' x3.length c')).heap.size = w2.heap.size := by simp
      obtain ⟨d0, d1, d2, d3, -⟩ := block_four' hS3
      clear c0 c1 c2 c3
      have hNew := new_four' (w2.setCell ⟨wr.heap.size, 3, none⟩ (.slice a' x3.length c')) 37 (.int .i64 x0) (.int .i64 x1) (.int .i64 x2) (.slice a' x3.length c') w2.heap.size hz3.symm
      have hR4 := hR3.alloc (.cells #[.int .i64 x0, .int .i64 x1, .int .i64 x2, .slice a' x3.length c'] 37)
      have hB4 := hbw.trans ((hB3.alloc (by omega) (.cells #[.int .i64 x0, .int .i64 x1, .int .i64 x2, .slice a' x3.length c'] 37)).mono zw)
      have hT4 := hT3.later ((Below.refl _ (w2.setCell ⟨wr.heap.size, 3, none⟩ (.slice a' x3.length c'))).alloc (Nat.le_refl _) (.cells #[.int .i64 x0, .int .i64 x1, .int .i64 x2, .slice a' x3.length c'] 37))
      have HR4 : RowKit.Hid (∀ r ∈ rs, EditsT ((w2.setCell ⟨wr.heap.size, 3, none⟩ (.slice a' x3.length c')).alloc (.cells #[.int .i64 x0, .int .i64 x1, .int .i64 x2, .slice a' x3.length c'] 37)) r.2 r.1.edits) := fun r hr => (HR.out r hr).later (hB3.alloc (by omega) _)
      go_wp2_with (at_builtin; (refine wpList_append_own _ rfl _ _ 22 rfl w.heap.size 37 i0 (.agg #[.int .i64 0, .int .i64 0, .int .i64 0, .slice none 0 0]) 4 48 Try.underlying22 hi hz0 hz1 hz2 rfl (by decide) _ _ _ rfl hR4 ⟨w2.heap.size, 0, none⟩ 1 1 [.int .i64 x0, .int .i64 x1, .int .i64 x2, .slice a' x3.length c'] rfl rfl hNew (one_four _ _ _ _ _ _) (by unfold maxLen; omega) (by omega) hB4.size ?_); intro v5 w5 hR5 hg5 _)
      have hty := ownsRow_typed hR4
      have hB5 := below_own hB4 hB4.size hR4 hg5
      have HR5 : RowKit.Hid (∀ r ∈ rs ++ [((⟨x0, x1, x2, x3⟩ : FindP), Value.slice a' x3.length c')], EditsT w5 r.2 r.1.edits) := fun r hr => by
        rcases List.mem_append.1 hr with h | h
        · exact (HR4.out r h).grown hg5 (by decide) hty
        · rw [List.mem_singleton.1 h]; exact hT4.grown hg5 (by decide) hty
      have hR6 : w5.ownsRow w.heap.size 37 4 v5 (rs ++ [((⟨x0, x1, x2, x3⟩ : FindP), Value.slice a' x3.length c')]).length (findCells (rs ++ [((⟨x0, x1, x2, x3⟩ : FindP), Value.slice a' x3.length c')])) := by
        rw [findCells_snoc, List.length_append]; exact hR5
      go_roundw
      case rel => exact ⟨k + 1, _, by omega, by go_num, hR6, hB5, by simp; omega, HTK.out _, HR5.out⟩
      case measure => simp [RowKit.intOf]; omega
    · obtain rfl : k = l.length := by omega
      rw [List.take_length] at HM
      go_wp2
      go_ret
      exact ⟨⟨_, rs, rfl, hoR, HM.out, HR.out⟩, hbw⟩
end Go.Proofs.Ytkhpoeolnhfflaa
