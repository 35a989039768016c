/-
  The walk of EditOutside: it returns true whatever the text, the edits and the offset. Conditions: the form's own bounds.
-/
import Derived.Test.YtkhpoeolnhfflaaEditAppliesWalk
import Derived.Test.YtkhpoeolnhfflaaEditLaw
import Derived.Test.YtkhpoeolnhfflaaEditMovesWalk
set_option linter.unusedSimpArgs false
set_option linter.unusedVariables false
namespace Go.Proofs.Ytkhpoeolnhfflaa
open Go.Shelf Go.RowKit Go.Lib Go.Sort

theorem list_len (s : ByteArray) : s.data.toList.length = s.size := by rw [Array.length_toList]; rfl
theorem get_of_list {s t : ByteArray} {i j : Nat} (hi : i < s.size) (h : t.data.toList[j]? = s.data.toList[i]?) : j < t.size ∧ t.get! j = s.get! i := by
  have hi' : i < s.data.toList.length := by rw [list_len]; exact hi
  rw [List.getElem?_eq_getElem hi'] at h
  obtain ⟨hj, he⟩ := List.getElem?_eq_some_iff.1 h
  have hj' : j < t.size := by rw [← list_len]; exact hj
  refine ⟨hj', ?_⟩
  have e1 : t.get! j = t.data[j]! := rfl
  have e2 : s.get! i = s.data[i]! := rfl
  rw [e1, e2, getElem!_pos t.data j (by exact hj'), getElem!_pos s.data i (by exact hi)]
  simpa using he

theorem get_eq {s t : ByteArray} {i j : Nat} (hj : j < t.size) (hi : i < s.size) (h : t.get! j = s.get! i) : t[j] = s[i] := by
  have e1 : t.get! j = t.data[j]! := rfl
  have e2 : s.get! i = s.data[i]! := rfl
  rw [e1, e2, getElem!_pos t.data j (by exact hj), getElem!_pos s.data i (by exact hi)] at h
  exact h

namespace editOutside
set_option maxHeartbeats 8000000 in
set_option maxRecDepth 100000 in
theorem walk (s : ByteArray) (hs : s.size ≤ reachBytes) (a : Option Addr) (l : List EditP) (cap : Nat) (hl : l.length * 32 ≤ reachBytes) (hx : ∀ e ∈ l, EditOk e) (o : Int) (_ho : (Lit.int .i64 o).wf = true) (w : World) (hI : EditsIn w.heap.size w (.slice a l.length cap) l) :
    Calls Try.prog 10 #[.string s, .slice a l.length cap, .int .i64 o] w fun e w' => e = .returned (.bool true) ∧ Below w.heap.size w w' := by
  have hG := fun (w1 : World) (h : EditsIn w1.heap.size w1 (.slice a l.length cap) l) => great_any s hs a cap l hl (fun e he => (hx e he).text) w1 h
  have HI := Lib.hid hI
  have hrb : s.size < 9223372036854775807 := by unfold reachBytes at hs; omega
  have mixed : Try.prog.follows Departure.mixedOrders = true := rfl
  clear hI hl hx hs
  cases hg : greatP s.size l
  · rw [hg] at hG
    obtain ⟨g1, g2, g3⟩ := great_false hg
    clear hg
    by_cases h0 : o < 0
    · go_enter Try.func10, Try.ntmps10
      go_wp2_with fail
      refine (editAlive_any _).mono ?_
      rintro e w1 ⟨rfl, b1⟩
      go_wp2_with fail
      refine (hG w1 (HI.out.later b1)).mono ?_
      rintro e w2 ⟨rfl, b2⟩
      go_wp2_with fail
      go_ret
      exact ⟨rfl, b1.trans (b2.mono b1.size)⟩
    · by_cases h1 : (s.size : Int) ≤ o
      · go_enter Try.func10, Try.ntmps10
        go_wp2_with fail
        refine (editAlive_any _).mono ?_
        rintro e w1 ⟨rfl, b1⟩
        go_wp2_with fail
        refine (hG w1 (HI.out.later b1)).mono ?_
        rintro e w2 ⟨rfl, b2⟩
        go_wp2_with fail
        go_ret
        exact ⟨rfl, b1.trans (b2.mono b1.size)⟩
      · obtain ⟨i, rfl⟩ : ∃ i : Nat, o = i := ⟨o.toNat, by omega⟩
        have his : i < s.size := by omega
        have hisi : (i : Int) < (s.size : Int) := by omega
        have hA := fun (a1 : Option Addr) (c1 : Nat) (w1 : World) (h : EditsIn w1.heap.size w1 (.slice a1 l.length c1) l) => editApply_any s (by omega) a1 c1 l (by omega) (fun e he => by have := g2 e he; omega) w1 h
        by_cases hch : checkP s.size l = 0
        · have hb : ∀ e ∈ l, EdB e := fun e he => by
            obtain ⟨q1, q2, q3⟩ := (checked_ok hch).1 e ((ss_perm ltE l).mem_iff.2 he)
            exact ⟨q1, q2, by omega, by have := g2 e he; omega⟩
          have hM := fun (a1 : Option Addr) (c1 : Nat) (w1 : World) (h : EditsIn w1.heap.size w1 (.slice a1 l.length c1) l) => move_any a1 c1 l (by omega) hb (i : Int) (by omega) (by omega) w1 h
          have hLAW : RowKit.Hid ((∀ e ∈ l, ¬ (e.fr ≤ (i : Int) ∧ (i : Int) < e.to)) → ∃ j : Nat, moveP l (i : Int) = (j : Int) ∧ j < (applyR s l).size ∧ (applyR s l).get! j = s.get! i) := fun hn => by
            have hc := chain_checked hch
            rw [← list_len s] at hc
            obtain ⟨j, hj, hg⟩ := apply_at s.data.toList (ss ltE l) 0 i hc (Nat.zero_le _) (by rw [list_len]; exact his) (fun e he => hn e ((ss_perm ltE l).mem_iff.1 he))
            refine ⟨j, ?_, ?_⟩
            · rw [← moveP_sorted]; unfold moveP; omega
            · unfold applyR
              rw [if_pos hch]
              exact get_of_list his (by simpa using hg)
          rw [hch] at hA
          have hCp := fun (w1 : World) (h : EditsIn w1.heap.size w1 (.slice a l.length cap) l) => copyEdits_any a cap l (by omega) w1 h
          generalize moveP l (i : Int) = mv at *
          generalize applyR s l = t at *
          clear hb g2 hch
          go_enter Try.func10, Try.ntmps10
          go_wp2_with fail
          refine (editAlive_any _).mono ?_
          rintro e w1 ⟨rfl, b1⟩
          have hI1 := HI.out.later b1
          go_wp2_with fail
          refine (hG w1 hI1).mono ?_
          rintro e w2 ⟨rfl, b2⟩
          have hI2 := hI1.later b2
          have d2 := b1.trans (b2.mono b1.size)
          clear b1 b2 hI1
          go_wp2_with fail
          refine (hCp w2 hI2).mono ?_
          rintro e w3 ⟨⟨a3, c3, rfl, hO3⟩, b3⟩
          have hI3 := hI2.later b3
          have d3 := d2.trans (b3.mono d2.size)
          clear b3 hI2 d2
          go_wp2_with fail
          refine (hA a3 c3 w3 hO3).mono ?_
          rintro e w4 ⟨rfl, b4⟩
          have HI4 := Lib.hid (hI3.later b4)
          have D4 := Lib.hid (d3.trans (b4.mono d3.size))
          clear b4 hI3 hO3 d3
          go_wp2_with fail
          go_loopw [9] (fun iv wr => ∃ k : Nat, k ≤ l.length ∧ iv = .int .i64 k ∧ RowKit.Hid (∀ e ∈ l.take k, ¬ (e.fr ≤ (i : Int) ∧ (i : Int) < e.to)) ∧ Below w4.heap.size w4 wr) (fun iv _ => l.length - (RowKit.intOf iv).toNat)
          case atStart => exact ⟨0, Nat.zero_le _, rfl, (fun e he => by simp at he), Below.refl _ _⟩
          case round =>
            obtain ⟨k, hk, rfl, HK, hbw⟩ := hrel
            by_cases hlt : k < l.length
            · have hlt' : (k : Int) < (l.length : Int) := by omega
              obtain ⟨g, off, rfl, hgl, -, hc⟩ := (HI4.out.below hbw).at hlt
              obtain ⟨c0, c1, c2⟩ := hc k hlt
              have HF : RowKit.Hid (¬ (l[k].fr ≤ (i : Int) ∧ (i : Int) < l[k].to) → ∀ e ∈ l.take (k + 1), ¬ (e.fr ≤ (i : Int) ∧ (i : Int) < e.to)) := fun h e he => by
                rw [List.take_succ_eq_append_getElem hlt] at he
                rcases List.mem_append.1 he with he | he
                · exact HK.out e he
                · rw [List.mem_singleton.1 he]; exact h
              clear hc HK
              generalize l[k] = e at *
              by_cases hp : e.fr ≤ (i : Int)
              · by_cases hq : (i : Int) < e.to
                · go_wp2_with fail
                  go_ret
                  exact ⟨rfl, D4.out.trans (hbw.mono D4.out.size)⟩
                · go_wp2_with fail
                  go_roundw
                  case rel => exact ⟨k + 1, by omega, by go_num, HF.out (fun h => hq h.2), hbw⟩
                  case measure => simp [RowKit.intOf]; omega
              · go_wp2_with fail
                go_roundw
                case rel => exact ⟨k + 1, by omega, by go_num, HF.out (fun h => hp h.1), hbw⟩
                case measure => simp [RowKit.intOf]; omega
            · obtain rfl : k = l.length := by omega
              rw [List.take_length] at HK
              obtain ⟨j, rfl, hjt, hgt⟩ := hLAW.out HK.out
              have hjti : (j : Int) < (t.size : Int) := by omega
              have hI5 := HI4.out.later (hbw.mono (Nat.le_refl _))
              have d5 := D4.out.trans (hbw.mono D4.out.size)
              go_wp2_with fail
              refine (hCp wr hI5).mono ?_
              rintro e w6 ⟨⟨a6, c6, rfl, hO6⟩, b6⟩
              have d6 := d5.trans (b6.mono d5.size)
              go_wp2_with fail
              refine (hM a6 c6 w6 hO6).mono ?_
              rintro e w7 ⟨rfl, b7⟩
              have d7 := d6.trans (b7.mono d6.size)
              clear hI5 d5 b6 d6 b7 hbw
              go_wp2_with fail
              go_quiet (fail)
              go_wp2_with fail
              go_ret
              exact ⟨by first | rfl | simp [get_eq hjt his hgt], below_drewN d7⟩
        · have hR : applyR s l = ⟨#[]⟩ := by unfold applyR; rw [if_neg hch]
          rw [hR] at hA
          generalize checkP s.size l = c at *
          have hcb : (c == 0) = false := beq_eq_false_iff_ne.2 hch
          have hcb2 : (c != 0) = true := bne_iff_ne.2 hch
          go_enter Try.func10, Try.ntmps10
          go_wp2_with fail
          refine (editAlive_any _).mono ?_
          rintro e w1 ⟨rfl, b1⟩
          have hI1 := HI.out.later b1
          go_wp2_with fail
          refine (hG w1 hI1).mono ?_
          rintro e w2 ⟨rfl, b2⟩
          have hI2 := hI1.later b2
          have d2 := b1.trans (b2.mono b1.size)
          go_wp2_with fail
          refine (copyEdits_any a cap l (by omega) w2 hI2).mono ?_
          rintro e w3 ⟨⟨a3, c3, rfl, hO3⟩, b3⟩
          have d3 := d2.trans (b3.mono d2.size)
          go_wp2_with fail
          refine (hA a3 c3 w3 hO3).mono ?_
          rintro e w4 ⟨rfl, b4⟩
          go_wp2_with fail
          go_ret
          exact ⟨by first | rfl | simp, d3.trans (b4.mono d3.size)⟩
  · rw [hg] at hG
    go_enter Try.func10, Try.ntmps10
    go_wp2_with fail
    refine (editAlive_any _).mono ?_
    rintro e w1 ⟨rfl, b1⟩
    go_wp2_with fail
    refine (hG w1 (HI.out.later b1)).mono ?_
    rintro e w2 ⟨rfl, b2⟩
    go_wp2_with fail
    go_ret
    exact ⟨rfl, b1.trans (b2.mono b1.size)⟩
end editOutside
end Go.Proofs.Ytkhpoeolnhfflaa
