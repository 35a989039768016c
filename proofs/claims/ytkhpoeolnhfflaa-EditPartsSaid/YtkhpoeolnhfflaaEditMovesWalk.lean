/-
  The walk of EditMoves: it returns true whatever the text, the edits and the offset. Conditions: the form's own bounds.
-/
import Derived.Test.YtkhpoeolnhfflaaEditAlive
set_option linter.unusedSimpArgs false
set_option linter.unusedVariables false
namespace Go.Proofs.Ytkhpoeolnhfflaa
open Go.Shelf Go.RowKit Go.Lib Go.Sort

theorem sum_perm (o : Int) {a b : List EditP} (h : a.Perm b) : (a.map (dl o)).sum = (b.map (dl o)).sum := by
  induction h with
  | nil => rfl
  | cons x _ ih => simp [ih]
  | swap x y l => simp; omega
  | trans _ _ i j => exact i.trans j
theorem moveP_sorted (l : List EditP) (o : Int) : moveP (ss ltE l) o = moveP l o := by
  unfold moveP
  rw [sum_perm o (ss_perm ltE l)]

namespace editMoves
set_option maxHeartbeats 8000000 in
set_option maxRecDepth 100000 in
theorem walk (s : ByteArray) (hs : s.size ≤ reachBytes) (a : Option Addr) (l : List EditP) (cap : Nat) (hl : l.length * 32 ≤ reachBytes) (hx : ∀ e ∈ l, EditOk e) (o : Int) (ho : (Lit.int .i64 o).wf = true) (w : World) (hI : EditsIn w.heap.size w (.slice a l.length cap) l) :
    Calls Try.prog 9 #[.string s, .slice a l.length cap, .int .i64 o] w fun e w' => e = .returned (.bool true) ∧ Below w.heap.size w w' := by
  have hG := fun (w1 : World) (h : EditsIn w1.heap.size w1 (.slice a l.length cap) l) => great_any s hs a cap l hl (fun e he => (hx e he).text) w1 h
  have HI := Lib.hid hI
  have hrb : s.size < 9223372036854775807 := by unfold reachBytes at hs; omega
  clear hI hl hx hs
  cases hg : greatP s.size l
  · rw [hg] at hG
    obtain ⟨g1, g2, g3⟩ := great_false hg
    clear hg
    by_cases h0 : o < 0
    · go_enter Try.func9, Try.ntmps9
      go_wp2_with fail
      refine (editAlive_any _).mono ?_
      rintro e w1 ⟨rfl, b1⟩
      go_wp2_with fail
      refine (hG w1 ((HI.out.below b1).mono b1.size)).mono ?_
      rintro e w2 ⟨rfl, b2⟩
      go_wp2_with fail
      go_ret
      exact ⟨rfl, b1.trans (b2.mono b1.size)⟩
    · by_cases h1 : (s.size : Int) < o
      · go_enter Try.func9, Try.ntmps9
        go_wp2_with fail
        refine (editAlive_any _).mono ?_
        rintro e w1 ⟨rfl, b1⟩
        go_wp2_with fail
        refine (hG w1 ((HI.out.below b1).mono b1.size)).mono ?_
        rintro e w2 ⟨rfl, b2⟩
        go_wp2_with fail
        go_ret
        exact ⟨rfl, b1.trans (b2.mono b1.size)⟩
      · have hC := fun (w1 : World) (h : EditsIn w1.heap.size w1 (.slice a l.length cap) l) => refCheck_any s (by omega) a cap l (by omega) w1 h
        by_cases hch : checkP s.size l = 0
        · rw [hch] at hC
          obtain ⟨hok, -⟩ := checked_ok hch
          have hb : ∀ e ∈ l, EdB e := fun e he => by
            obtain ⟨q1, q2, q3⟩ := hok e ((ss_perm ltE l).mem_iff.2 he)
            exact ⟨q1, q2, by omega, by have := g2 e he; omega⟩
          have hM := fun (a1 : Option Addr) (c1 : Nat) (w1 : World) (h : EditsIn w1.heap.size w1 (.slice a1 l.length c1) l) => move_any a1 c1 l (by omega) hb o (by omega) (by omega) w1 h
          have hR := fun (w1 : World) (h : EditsIn w1.heap.size w1 (.slice a l.length cap) l) => refMove_any a cap l (by omega) hb o (by omega) (by omega) w1 h
          have hCp := fun (w1 : World) (h : EditsIn w1.heap.size w1 (.slice a l.length cap) l) => copyEdits_any a cap l (by omega) w1 h
          rw [moveP_sorted] at hR
          generalize moveP l o = mv at *
          clear hb hok g2 hch
          go_enter Try.func9, Try.ntmps9
          go_wp2_with fail
          refine (editAlive_any _).mono ?_
          rintro e w1 ⟨rfl, b1⟩
          have hI1 := (HI.out.below b1).mono b1.size
          go_wp2_with fail
          refine (hG w1 hI1).mono ?_
          rintro e w2 ⟨rfl, b2⟩
          have hI2 := (hI1.below b2).mono b2.size
          go_wp2_with fail
          refine (hC w2 hI2).mono ?_
          rintro e w3 ⟨rfl, b3⟩
          have hI3 := (hI2.below b3).mono b3.size
          have HB := Lib.hid (b1.trans ((b2.mono b1.size).trans (b3.mono (Nat.le_trans b1.size b2.size))))
          clear b1 b2 b3 hI1 hI2
          go_wp2_with fail
          refine (hCp w3 hI3).mono ?_
          rintro e w4 ⟨⟨a4, c4, rfl, hI4⟩, b4⟩
          have hI3' := (hI3.below b4).mono b4.size
          go_wp2_with fail
          refine (hM a4 c4 w4 hI4).mono ?_
          rintro e w5 ⟨rfl, b5⟩
          have hI5 := (hI3'.below b5).mono b5.size
          go_wp2_with fail
          refine (hR w5 hI5).mono ?_
          rintro e w6 ⟨rfl, b6⟩
          go_wp2_with fail
          go_ret
          have z3 := HB.out.size
          have z4 := b4.size
          have z5 := b5.size
          exact ⟨by simp, HB.out.trans ((b4.trans ((b5.mono z4).trans (b6.mono (by omega)))).mono z3)⟩
        · generalize checkP s.size l = c at *
          have hcb : (c == 0) = false := beq_eq_false_iff_ne.2 hch
          have hcb2 : (c != 0) = true := bne_iff_ne.2 hch
          go_enter Try.func9, Try.ntmps9
          go_wp2_with fail
          refine (editAlive_any _).mono ?_
          rintro e w1 ⟨rfl, b1⟩
          have hI1 := (HI.out.below b1).mono b1.size
          go_wp2_with fail
          refine (hG w1 hI1).mono ?_
          rintro e w2 ⟨rfl, b2⟩
          have hI2 := (hI1.below b2).mono b2.size
          go_wp2_with fail
          refine (hC w2 hI2).mono ?_
          rintro e w3 ⟨rfl, b3⟩
          go_wp2_with fail
          go_ret
          exact ⟨by simp, b1.trans ((b2.mono b1.size).trans (b3.mono (Nat.le_trans b1.size b2.size)))⟩
  · rw [hg] at hG
    go_enter Try.func9, Try.ntmps9
    go_wp2_with fail
    refine (editAlive_any _).mono ?_
    rintro e w1 ⟨rfl, b1⟩
    go_wp2_with fail
    refine (hG w1 ((HI.out.below b1).mono b1.size)).mono ?_
    rintro e w2 ⟨rfl, b2⟩
    go_wp2_with fail
    go_ret
    exact ⟨rfl, b1.trans (b2.mono b1.size)⟩
end editMoves
end Go.Proofs.Ytkhpoeolnhfflaa
