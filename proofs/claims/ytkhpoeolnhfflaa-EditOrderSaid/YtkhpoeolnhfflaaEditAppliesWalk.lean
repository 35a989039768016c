/-
  The walk of EditApplies: it returns true whatever the text and the edits. Conditions: the form's own bounds.
-/
import Derived.Test.YtkhpoeolnhfflaaEditAlive
import Derived.Test.YtkhpoeolnhfflaaRefApply
set_option linter.unusedSimpArgs false
set_option linter.unusedVariables false
namespace Go.Proofs.Ytkhpoeolnhfflaa
open Go.Shelf Go.RowKit Go.Lib Go.Sort

/-- The text that Apply answers. -/
def applyR (s : ByteArray) (l : List EditP) : ByteArray := if checkP s.size l = 0 then ⟨(applyB s.data.toList 0 (ss ltE l)).toArray⟩ else ⟨#[]⟩
theorem editApply_any (s : ByteArray) (hsz : s.size ≤ 1000000) (a : Option Addr) (cap : Nat) (l : List EditP) (hl : l.length ≤ 1000) (hx : ∀ e ∈ l, e.text.size ≤ 1000000) (w : World) (hI : EditsIn w.heap.size w (.slice a l.length cap) l) :
    Calls Try.prog 31 #[.string s, .slice a l.length cap] w fun e w' => e = .returned (.tuple #[.string (applyR s l), .int .i64 (checkP s.size l)]) ∧ Below w.heap.size w w' := by
  unfold applyR
  by_cases h : checkP s.size l = 0
  · rw [if_pos h, h]; exact editApply_ok s hsz a cap l hl hx w hI h
  · rw [if_neg h]; exact editApply_bad s hsz a cap l hl w hI h
theorem refApply_any (s : ByteArray) (hsz : s.size ≤ 1000000) (a : Option Addr) (cap : Nat) (l : List EditP) (hl : l.length ≤ 1000) (hx : ∀ e ∈ l, e.text.size ≤ 1000000) (w : World) (hI : EditsIn w.heap.size w (.slice a l.length cap) l) :
    Calls Try.prog 32 #[.string s, .slice a l.length cap] w fun e w' => e = .returned (.tuple #[.string (applyR s l), .int .i64 (checkP s.size l)]) ∧ Below w.heap.size w w' := by
  unfold applyR
  by_cases h : checkP s.size l = 0
  · rw [if_pos h, h]; exact refApply_ok s hsz a cap l hl hx w hI h
  · rw [if_neg h]; exact refApply_bad s hsz a cap l hl w hI h

/-- What a slice holds it still holds where nothing has turned. -/
theorem EditsIn.later {w w' : World} {v : Value} {l : List EditP} (h : EditsIn w.heap.size w v l) (hb : Below w.heap.size w w') : EditsIn w'.heap.size w' v l := (h.below hb).mono hb.size

namespace editApplies
set_option maxHeartbeats 8000000 in
set_option maxRecDepth 100000 in
theorem walk (s : ByteArray) (hs : s.size ≤ reachBytes) (a : Option Addr) (l : List EditP) (cap : Nat) (hl : l.length * 32 ≤ reachBytes) (hx : ∀ e ∈ l, EditOk e) (w : World) (hI : EditsIn w.heap.size w (.slice a l.length cap) l) :
    Calls Try.prog 8 #[.string s, .slice a l.length cap] w fun e w' => e = .returned (.bool true) ∧ Below w.heap.size w w' := by
  have hG := fun (w1 : World) (h : EditsIn w1.heap.size w1 (.slice a l.length cap) l) => great_any s hs a cap l hl (fun e he => (hx e he).text) w1 h
  have HI := Lib.hid hI
  clear hI hl hx hs
  cases hg : greatP s.size l
  · rw [hg] at hG
    obtain ⟨g1, g2, g3⟩ := great_false hg
    have hA := fun (a1 : Option Addr) (c1 : Nat) (w1 : World) (h : EditsIn w1.heap.size w1 (.slice a1 l.length c1) l) => editApply_any s (by omega) a1 c1 l (by omega) (fun e he => by have := g2 e he; omega) w1 h
    have hR := fun (a1 : Option Addr) (c1 : Nat) (w1 : World) (h : EditsIn w1.heap.size w1 (.slice a1 l.length c1) l) => refApply_any s (by omega) a1 c1 l (by omega) (fun e he => by have := g2 e he; omega) w1 h
    have hC := fun (a1 : Option Addr) (c1 : Nat) (w1 : World) (h : EditsIn w1.heap.size w1 (.slice a1 l.length c1) l) => editCheck_any s (by omega) a1 c1 l (by omega) w1 h
    have hL := ss_length ltE l
    generalize applyR s l = r at *
    generalize checkP s.size l = c at *
    clear hg g2
    go_enter Try.func8, Try.ntmps8
    go_wp2_with fail
    refine (editAlive_any _).mono ?_
    rintro e w1 ⟨rfl, b1⟩
    have hI1 := HI.out.later b1
    go_wp2_with fail
    refine (hG w1 hI1).mono ?_
    rintro e w2 ⟨rfl, b2⟩
    have hI2 := hI1.later b2
    have c2 := b1.trans (b2.mono b1.size)
    clear b1 b2 hI1
    go_wp2_with fail
    refine (copyEdits_any a cap l (by omega) w2 hI2).mono ?_
    rintro e w3 ⟨⟨a3, c3, rfl, hO3⟩, b3⟩
    have hI3 := hI2.later b3
    have d3 := c2.trans (b3.mono c2.size)
    clear b3 hI2 c2
    go_wp2_with fail
    refine (hA a3 c3 w3 hO3).mono ?_
    rintro e w4 ⟨rfl, b4⟩
    have hI4 := hI3.later b4
    have hO4 := hO3.later b4
    have d4 := d3.trans (b4.mono d3.size)
    clear b4 hI3 hO3 d3
    go_wp2_with fail
    refine (hR a cap w4 hI4).mono ?_
    rintro e w5 ⟨rfl, b5⟩
    have hI5 := hI4.later b5
    have hO5 := hO4.later b5
    have d5 := d4.trans (b5.mono d4.size)
    clear b5 hI4 hO4 d4
    go_wp2_with fail
    refine (hC a3 c3 w5 hO5).mono ?_
    rintro e w6 ⟨rfl, b6⟩
    have hI6 := hI5.later b6
    have hO6 := hO5.later b6
    have d6 := d5.trans (b6.mono d5.size)
    clear b6 hI5 hO5 d5
    go_wp2_with fail
    refine (sorted_any a3 c3 l (by omega) w6 hO6).mono ?_
    rintro e w7 ⟨⟨a7, c7, rfl, hS7, -⟩, b7⟩
    have hI7 := hI6.later b7
    have hO7 := hO6.later b7
    have d7 := d6.trans (b7.mono d6.size)
    clear b7 hI6 hO6 d6
    go_wp2_with fail
    refine (refSorted_any a cap l (by omega) w7 hI7).mono ?_
    rintro e w8 ⟨⟨a8, c8, rfl, hS8⟩, b8⟩
    have hI8 := hI7.later b8
    have hO8 := hO7.later b8
    have hT8 := hS7.later b8
    have d8 := d7.trans (b8.mono d7.size)
    clear b8 hI7 hO7 hS7 d7
    have kS := sameEdits_any a7 a8 c7 c8 (ss ltE l) (by omega) w8 (by rw [hL]; exact hT8) (by rw [hL]; exact hS8)
    rw [hL] at kS
    clear hS8 hT8
    go_wp2_with fail
    refine kS.mono ?_
    rintro e w9 ⟨rfl, b9⟩
    have hI9 := hI8.later b9
    have hO9 := hO8.later b9
    have d9 := d8.trans (b9.mono d8.size)
    clear b9 hI8 hO8 d8 kS
    go_wp2_with fail
    refine (sameEdits_any a3 a c3 cap l (by omega) w9 hO9 hI9).mono ?_
    rintro e w10 ⟨rfl, b10⟩
    go_wp2_with fail
    go_ret
    exact ⟨by first | rfl | simp, d9.trans (b10.mono d9.size)⟩
  · rw [hg] at hG
    go_enter Try.func8, Try.ntmps8
    go_wp2_with fail
    refine (editAlive_any _).mono ?_
    rintro e w1 ⟨rfl, b1⟩
    go_wp2_with fail
    refine (hG w1 (HI.out.later b1)).mono ?_
    rintro e w2 ⟨rfl, b2⟩
    go_wp2_with fail
    go_ret
    exact ⟨rfl, b1.trans (b2.mono b1.size)⟩
end editApplies
end Go.Proofs.Ytkhpoeolnhfflaa
