/-
  merge.Edits and stetref24.Edits. Conditions: at most 1000 findings of at most 1000 edits, 1000 numbers.
-/
import Derived.Test.YtkhpoeolnhfflaaMergeChoose
import Derived.Test.YtkhpoeolnhfflaaRefSort
set_option linter.unusedSimpArgs false
set_option linter.unusedVariables false
namespace Go.Proofs.Ytkhpoeolnhfflaa
open Go.Shelf Go.RowKit Go.Lib Go.Sort

theorem editsF_drop (l : List FindP) {c : List Int} {k : Nat} (h : k < c.length) : editsF l (c.drop k) = (if 0 ≤ c[k] ∧ c[k] < l.length then l[c[k].toNat]!.edits else []) ++ editsF l (c.drop (k + 1)) := by
  rw [List.drop_eq_getElem_cons h]; rfl
theorem editsF_in (l : List FindP) {c : List Int} {k m : Nat} (h : k < c.length) (hc : c[k] = (m : Int)) (hm : m < l.length) : editsF l (c.drop k) = l[m].edits ++ editsF l (c.drop (k + 1)) := by
  rw [editsF_drop l h, if_pos (by rw [hc]; omega), hc]
  simp [hm]
theorem editsF_out (l : List FindP) {c : List Int} {k : Nat} (h : k < c.length) (hc : ¬ (0 ≤ c[k] ∧ c[k] < l.length)) : editsF l (c.drop k) = editsF l (c.drop (k + 1)) := by
  rw [editsF_drop l h, if_neg hc]; rfl
theorem editsF_len (l : List FindP) (he : ∀ f ∈ l, f.edits.length ≤ 1000) : ∀ c : List Int, (editsF l c).length ≤ c.length * 1000
  | [] => by simp [editsF]
  | x :: t => by
    have ih := editsF_len l he t
    rw [editsF, List.length_append, List.length_cons]
    have : (if 0 ≤ x ∧ x < l.length then l[x.toNat]!.edits else []).length ≤ 1000 := by
      split
      · rename_i h
        have hx : x.toNat < l.length := by omega
        rw [getElem!_pos l x.toNat hx]
        exact he _ (List.getElem_mem hx)
      · simp
    omega

set_option maxRecDepth 100000 in
set_option maxHeartbeats 8000000 in
theorem mergeEdits_any (a ac : Option Addr) (cap cc : Nat) (l : List FindP) (c : List Int) (hl : l.length ≤ 1000) (hcl : c.length ≤ 1000) (he : ∀ f ∈ l, f.edits.length ≤ 1000) (w : World) (hI : FindsIn w.heap.size w (.slice a l.length cap) l) (hC : IntsIn w.heap.size w (.slice ac c.length cc) c) :
    Calls Try.prog 21 #[.slice a l.length cap, .slice ac c.length cc] w fun e w' => (∃ a' cap', e = .returned (.slice a' (editsF l c).length cap') ∧ EditsIn w'.heap.size w' (.slice a' (editsF l c).length cap') (ss ltE (editsF l c))) ∧ Below w.heap.size w w' := by
  have HI := Lib.hid hI
  have HC := Lib.hid hC
  have HE := Lib.hid he
  have hEL := editsF_len l he c
  have mixed : Try.prog.follows Departure.mixedOrders = true := rfl
  clear hI hC he
  go_enter Try.func21, Try.ntmps21
  go_wp2
  go_loopw [5, 10] (fun ov iv wr => ∃ (k : Nat) (o : List EditP), k ≤ c.length ∧ iv = .int .i64 k ∧ wr.ownsRow w.heap.size 50 3 ov o.length (editCells o) ∧ Below w.heap.size w wr ∧ o.length ≤ k * 1000 ∧
      RowKit.Hid (o ++ editsF l (c.drop k) = editsF l c)) (fun _ iv _ => c.length - (RowKit.intOf iv).toNat)
  case atStart => exact ⟨0, [], Nat.zero_le _, rfl, World.ownsRow_nil _ _ _ _, Below.refl _ _, Nat.zero_le _, rfl⟩
  case round =>
    obtain ⟨k, o, hk, rfl, hoO, hbw, hol, HF⟩ := hrel
    have zw := hbw.size
    obtain ⟨aO, cO, rfl, -⟩ := ownsRow_slice hoO
    by_cases hlt : k < c.length
    · have hlt' : (k : Int) < (c.length : Int) := by omega
      obtain ⟨gc, oc, rfl, hgc, -, hcc⟩ := (HC.out.below hbw).at hlt
      have q0 := hcc k hlt
      clear hcc
      have HIN : RowKit.Hid (∀ m : Nat, c[k] = (m : Int) → ∀ h : m < l.length, editsF l (c.drop k) = l[m].edits ++ editsF l (c.drop (k + 1))) := fun m h1 h2 => editsF_in l hlt h1 h2
      have HOUT : RowKit.Hid (¬ (0 ≤ c[k] ∧ c[k] < l.length) → editsF l (c.drop k) = editsF l (c.drop (k + 1))) := fun h => editsF_out l hlt h
      generalize c[k] = x at *
      by_cases hx : 0 ≤ x
      · obtain ⟨m, rfl⟩ : ∃ m : Nat, x = m := ⟨x.toNat, by omega⟩
        by_cases hm : m < l.length
        · have hmi : (m : Int) < (l.length : Int) := by omega
          obtain ⟨g, off, rfl, hg, -, hc⟩ := (HI.out.below hbw).at hm
          obtain ⟨-, -, -, aE, cE, c3, hE⟩ := hc m hm
          have hel := HE.out l[m] (List.getElem_mem hm)
          have HST := Lib.hid (HIN.out m rfl hm)
          clear hc HIN HOUT
          generalize l[m].edits = t at *
          go_wp2_with (at_builtin; (refine wpList_append_edits rfl _ _ rfl w.heap.size _ o rfl hoO aE t cE rfl hE (by omega) (by omega) (by omega) ?_); intro v5 w5 hO5 hg5)
          have hB5 := below_own hbw zw hoO hg5
          go_roundw
          case rel => exact ⟨k + 1, o ++ t, by omega, by go_num, hO5, hB5, by rw [List.length_append]; omega, by show _ = _; rw [← HF.out, HST.out, List.append_assoc]⟩
          case measure => simp [RowKit.intOf]; omega
        · have hmi : ¬ (m : Int) < (l.length : Int) := by omega
          go_wp2_with fail
          go_roundw
          case rel => exact ⟨k + 1, o, by omega, by go_num, hoO, hbw, by omega, by show _ = _; rw [← HF.out, HOUT.out (by omega)]⟩
          case measure => simp [RowKit.intOf]; omega
      · go_wp2_with fail
        go_roundw
        case rel => exact ⟨k + 1, o, by omega, by go_num, hoO, hbw, by omega, by show _ = _; rw [← HF.out, HOUT.out (by omega)]⟩
        case measure => simp [RowKit.intOf]; omega
    · obtain rfl : k = c.length := by omega
      have HR : RowKit.Hid (editsF l c = o) := by
        show _ = _
        rw [← HF.out, List.drop_length]; simp [editsF]
      obtain ⟨_, _, hv, hE⟩ := editsIn_of_owns hoO
      have kS := sorted_any aO cO o (by omega) wr hE
      clear hE hv
      go_wp2_with fail
      refine kS.mono ?_
      clear kS
      rintro e w6 ⟨⟨a', cap', rfl, hS, -⟩, b6⟩
      go_wp2_with fail
      go_ret
      rw [HR.out]
      exact ⟨⟨_, _, rfl, hS⟩, hbw.trans (b6.mono zw)⟩

set_option maxRecDepth 100000 in
set_option maxHeartbeats 8000000 in
theorem refEdits_any (a ac : Option Addr) (cap cc : Nat) (l : List FindP) (c : List Int) (hl : l.length ≤ 1000) (hcl : c.length ≤ 1000) (he : ∀ f ∈ l, f.edits.length ≤ 1000) (w : World) (hI : FindsIn w.heap.size w (.slice a l.length cap) l) (hC : IntsIn w.heap.size w (.slice ac c.length cc) c) :
    Calls Try.prog 23 #[.slice a l.length cap, .slice ac c.length cc] w fun e w' => (∃ a' cap', e = .returned (.slice a' (editsF l c).length cap') ∧ EditsIn w'.heap.size w' (.slice a' (editsF l c).length cap') (ss ltE (editsF l c))) ∧ Below w.heap.size w w' := by
  have HI := Lib.hid hI
  have HC := Lib.hid hC
  have HE := Lib.hid he
  have hEL := editsF_len l he c
  have mixed : Try.prog.follows Departure.mixedOrders = true := rfl
  have hN : Below w.heap.size w (w.alloc (.cells #[] 50)) := (Below.refl _ w).alloc (Nat.le_refl _) _
  have hown : (w.alloc (.cells #[] 50)).ownsRow w.heap.size 50 3 (.slice (some ⟨w.heap.size, 0, none⟩) 0 0) ([] : List EditP).length (editCells []) := ⟨rfl, .inr ⟨w.heap.size, 0, #[], rfl, Nat.le_refl _, heap_alloc_new w _, Nat.le_refl _, by decide, rfl, rfl⟩⟩
  clear hI hC he
  go_enter Try.func23, Try.ntmps23
  go_wp2
  go_loopw [5, 6] (fun ov iv wr => ∃ (k : Nat) (o : List EditP), k ≤ c.length ∧ iv = .int .i64 k ∧ wr.ownsRow w.heap.size 50 3 ov o.length (editCells o) ∧ Below w.heap.size w wr ∧ o.length ≤ k * 1000 ∧
      RowKit.Hid (o ++ editsF l (c.drop k) = editsF l c)) (fun _ iv _ => c.length - (RowKit.intOf iv).toNat)
  case atStart => exact ⟨0, [], Nat.zero_le _, rfl, hown, hN, Nat.zero_le _, rfl⟩
  case round =>
    clear hN hown
    obtain ⟨k, o, hk, rfl, hoO, hbw, hol, HF⟩ := hrel
    have zw := hbw.size
    obtain ⟨aO, cO, rfl, -⟩ := ownsRow_slice hoO
    by_cases hlt : k < c.length
    · have hlt' : (k : Int) < (c.length : Int) := by omega
      obtain ⟨gc, oc, rfl, hgc, -, hcc⟩ := (HC.out.below hbw).at hlt
      have q0 := hcc k hlt
      clear hcc
      have HIN : RowKit.Hid (∀ m : Nat, c[k] = (m : Int) → ∀ h : m < l.length, editsF l (c.drop k) = l[m].edits ++ editsF l (c.drop (k + 1))) := fun m h1 h2 => editsF_in l hlt h1 h2
      have HOUT : RowKit.Hid (¬ (0 ≤ c[k] ∧ c[k] < l.length) → editsF l (c.drop k) = editsF l (c.drop (k + 1))) := fun h => editsF_out l hlt h
      generalize c[k] = x at *
      by_cases hx : 0 ≤ x
      · obtain ⟨m, rfl⟩ : ∃ m : Nat, x = m := ⟨x.toNat, by omega⟩
        by_cases hm : m < l.length
        · have hmi : (m : Int) < (l.length : Int) := by omega
          obtain ⟨g, off, rfl, hg, -, hc⟩ := (HI.out.below hbw).at hm
          obtain ⟨-, -, -, aE, cE, c3, hE⟩ := hc m hm
          have hel := HE.out l[m] (List.getElem_mem hm)
          have HST := Lib.hid (HIN.out m rfl hm)
          clear hc HIN HOUT
          generalize l[m].edits = t at *
          go_wp2_with (at_builtin; (refine wpList_append_edits rfl _ _ rfl w.heap.size _ o rfl hoO aE t cE rfl hE (by omega) (by omega) (by omega) ?_); intro v5 w5 hO5 hg5)
          have hB5 := below_own hbw zw hoO hg5
          go_roundw
          case rel => exact ⟨k + 1, o ++ t, by omega, by go_num, hO5, hB5, by rw [List.length_append]; omega, by show _ = _; rw [← HF.out, HST.out, List.append_assoc]⟩
          case measure => simp [RowKit.intOf]; omega
        · have hmi : ¬ (m : Int) < (l.length : Int) := by omega
          go_wp2_with fail
          go_roundw
          case rel => exact ⟨k + 1, o, by omega, by go_num, hoO, hbw, by omega, by show _ = _; rw [← HF.out, HOUT.out (by omega)]⟩
          case measure => simp [RowKit.intOf]; omega
      · go_wp2_with fail
        go_roundw
        case rel => exact ⟨k + 1, o, by omega, by go_num, hoO, hbw, by omega, by show _ = _; rw [← HF.out, HOUT.out (by omega)]⟩
        case measure => simp [RowKit.intOf]; omega
    · obtain rfl : k = c.length := by omega
      have HR : RowKit.Hid (editsF l c = o) := by
        show _ = _
        rw [← HF.out, List.drop_length]; simp [editsF]
      obtain ⟨_, _, hv, hE⟩ := editsIn_of_owns hoO
      have kS := refSorted_any aO cO o (by omega) wr hE
      clear hE hv
      go_wp2_with fail
      refine kS.mono ?_
      clear kS
      rintro e w6 ⟨⟨a', cap', rfl, hS⟩, b6⟩
      go_wp2_with fail
      go_ret
      rw [HR.out]
      exact ⟨⟨_, _, rfl, hS⟩, hbw.trans (b6.mono zw)⟩
end Go.Proofs.Ytkhpoeolnhfflaa
