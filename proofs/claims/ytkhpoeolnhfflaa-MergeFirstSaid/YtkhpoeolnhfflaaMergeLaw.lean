/-
  Plain laws of choosing: the first is chosen, one more changes nothing ahead; what is chosen is apart; who is not chosen clashes. Conditions: none.
-/
import Derived.Test.YtkhpoeolnhfflaaMergeChoosesWalk
import Derived.Test.YtkhpoeolnhfflaaEditLaw
set_option linter.unusedSimpArgs false
set_option linter.unusedVariables false
namespace Go.Proofs.Ytkhpoeolnhfflaa
open Go.Shelf Go.RowKit Go.Lib Go.Sort

theorem chooseF_tail : ∀ (t : List FindP) (i : Nat) (ch : List Int) (tk : List EditP), ∃ r, (chooseF t i ch tk).1 = ch ++ r ∧ ∀ c ∈ r, (i : Int) ≤ c ∧ c < (i + t.length : Nat)
  | [], i, ch, tk => ⟨[], by simp [chooseF], fun c hc => by cases hc⟩
  | f :: t, i, ch, tk => by
    rw [chooseF]
    split
    · obtain ⟨r, h1, h2⟩ := chooseF_tail t (i + 1) ch tk
      exact ⟨r, h1, fun c hc => by have := h2 c hc; simp only [List.length_cons]; omega⟩
    · obtain ⟨r, h1, h2⟩ := chooseF_tail t (i + 1) (ch ++ [(i : Int)]) (tk ++ f.edits)
      refine ⟨(i : Int) :: r, by rw [h1]; simp, fun c hc => ?_⟩
      simp only [List.length_cons]
      rcases List.mem_cons.1 hc with rfl | hc
      · omega
      · have := h2 c hc; omega
theorem choose_range (l : List FindP) : ∀ c ∈ chooseP l, 0 ≤ c ∧ c < l.length := by
  obtain ⟨r, h1, h2⟩ := chooseF_tail l 0 [] []
  intro c hc
  unfold chooseP at hc
  rw [h1] at hc
  have := h2 c (by simpa using hc)
  simpa using this
theorem chooseF_snoc : ∀ (l : List FindP) (m : FindP) (i : Nat) (ch : List Int) (tk : List EditP), (chooseF (l ++ [m]) i ch tk).1 = (chooseF l i ch tk).1 ∨ (chooseF (l ++ [m]) i ch tk).1 = (chooseF l i ch tk).1 ++ [((i + l.length : Nat) : Int)]
  | [], m, i, ch, tk => by
    simp only [List.nil_append, chooseF]
    split
    · exact .inl rfl
    · exact .inr (by simp)
  | f :: t, m, i, ch, tk => by
    rw [List.cons_append, chooseF, chooseF]
    split
    · have := chooseF_snoc t m (i + 1) ch tk
      rwa [show i + 1 + t.length = i + (f :: t).length by simp only [List.length_cons]; omega] at this
    · have := chooseF_snoc t m (i + 1) (ch ++ [(i : Int)]) (tk ++ f.edits)
      rwa [show i + 1 + t.length = i + (f :: t).length by simp only [List.length_cons]; omega] at this
/-- One finding more. -/
theorem choose_snoc (l : List FindP) (m : FindP) : chooseP (l ++ [m]) = chooseP l ∨ chooseP (l ++ [m]) = chooseP l ++ [(l.length : Int)] := by
  have := chooseF_snoc l m 0 [] []
  simpa [chooseP] using this
theorem clash_nil (a : List EditP) : clashP a [] = false := by unfold clashP; induction a <;> simp_all
/-- The first one. -/
theorem choose_first (f : FindP) (t : List FindP) : ∃ r, chooseP (f :: t) = 0 :: r := by
  obtain ⟨r, h1, _⟩ := chooseF_tail t 1 [0] f.edits
  refine ⟨r, ?_⟩
  unfold chooseP
  rw [chooseF, clash_nil]
  simpa using h1

def apart (x y : EditP) : Prop := x.to ≤ y.fr ∨ y.to ≤ x.fr
theorem apart_symm {x y : EditP} (h : apart x y) : apart y x := h.symm
theorem chain_pair {n : Nat} : ∀ (S : List EditP) (p : Nat), Chain n p S → S.Pairwise apart
  | [], _, _ => .nil
  | e :: t, p, ⟨h1, h2, h3, h4⟩ => by
    refine .cons (fun y hy => .inl ?_) (chain_pair t _ h4)
    have := (chain_all t _ h4 y hy).1
    omega
theorem checked_apart {n : Nat} {l : List EditP} (h : checkP n l = 0) : l.Pairwise apart :=
  ((ss_perm ltE l).pairwise_iff (fun h => apart_symm h)).1 (chain_pair _ _ (chain_checked h))
theorem apart_checked {n : Nat} {l : List EditP} (h : l.Pairwise apart) (hb : ∀ e ∈ l, 0 ≤ e.fr ∧ e.fr ≤ e.to ∧ e.to ≤ (n : Int)) : checkP n l = 0 := by
  have hS : (ss ltE l).Pairwise apart := ((ss_perm ltE l).pairwise_iff (fun h => apart_symm h)).2 h
  have hU := ss_up swoE l
  have hbad : l.any (badE n) = false := by
    rw [List.any_eq_false]
    intro e he
    obtain ⟨h1, h2, h3⟩ := hb e he
    simp only [badE, Bool.or_eq_true, decide_eq_true_eq, not_or]
    omega
  have hlap : lapP (ss ltE l) = false := lapP_false _ fun i hi => by
    have h1 := List.pairwise_iff_getElem.1 hS i (i + 1) (by omega) hi (by omega)
    have h2 := List.pairwise_iff_getElem.1 hU i (i + 1) (by omega) hi (by omega)
    obtain ⟨b1, b2, b3⟩ := hb _ ((ss_perm ltE l).mem_iff.1 (List.getElem_mem (show i < (ss ltE l).length by omega)))
    obtain ⟨c1, c2, c3⟩ := hb _ ((ss_perm ltE l).mem_iff.1 (List.getElem_mem hi))
    simp only [ltE, Bool.or_eq_false_iff, Bool.and_eq_false_iff, decide_eq_false_iff_not] at h2
    rcases h1 with h1 | h1 <;> omega
  unfold checkP
  rw [hbad, hlap]; rfl
theorem apart_of_clash {x y : EditP} (h : clash1 x y = false) : apart x y := by
  unfold clash1 at h
  simp only [Bool.or_eq_false_iff, Bool.and_eq_false_iff, decide_eq_false_iff_not] at h
  unfold apart
  omega
theorem chooseF_taken (n : Nat) : ∀ (t : List FindP) (i : Nat) (ch : List Int) (tk : List EditP), tk.Pairwise apart → (∀ e ∈ tk, 0 ≤ e.fr ∧ e.fr ≤ e.to ∧ e.to ≤ (n : Int)) → (∀ f ∈ t, checkP n f.edits = 0) → (chooseF t i ch tk).2.Pairwise apart ∧ ∀ e ∈ (chooseF t i ch tk).2, 0 ≤ e.fr ∧ e.fr ≤ e.to ∧ e.to ≤ (n : Int)
  | [], _, _, _, h1, h2, _ => ⟨h1, h2⟩
  | f :: t, i, ch, tk, h1, h2, h3 => by
    rw [chooseF]
    split
    · exact chooseF_taken n t _ _ _ h1 h2 (fun g hg => h3 g (List.mem_cons_of_mem _ hg))
    · rename_i hc
      have hf := h3 f (by simp)
      refine chooseF_taken n t _ _ _ ?_ ?_ (fun g hg => h3 g (List.mem_cons_of_mem _ hg))
      · refine List.pairwise_append.2 ⟨h1, checked_apart hf, fun x hx y hy => ?_⟩
        refine apart_symm (apart_of_clash ?_)
        rw [Bool.not_eq_true] at hc
        unfold clashP at hc
        have := List.any_eq_false.1 hc y hy
        rw [Bool.not_eq_true] at this
        simpa using List.any_eq_false.1 this x hx
      · intro e he
        rcases List.mem_append.1 he with he | he
        · exact h2 e he
        · exact (checked_ok hf).1 e ((ss_perm ltE f.edits).mem_iff.2 he)
theorem editsF_append (l : List FindP) : ∀ (a b : List Int), editsF l (a ++ b) = editsF l a ++ editsF l b
  | [], b => rfl
  | x :: t, b => by rw [List.cons_append, editsF, editsF_append l t b, editsF, List.append_assoc]
theorem chooseF_edits (l : List FindP) : ∀ (t : List FindP) (i : Nat) (ch : List Int) (tk : List EditP), (∀ j (h : j < t.length), i + j < l.length ∧ l[i + j]! = t[j]) → editsF l ch = tk → editsF l (chooseF t i ch tk).1 = (chooseF t i ch tk).2
  | [], _, _, _, _, h => h
  | f :: t, i, ch, tk, hl, h => by
    have hl' : ∀ j (h : j < t.length), i + 1 + j < l.length ∧ l[i + 1 + j]! = t[j] := fun j h => by
      have := hl (j + 1) (by simpa using h)
      rw [show i + 1 + j = i + (j + 1) by omega]
      simpa using this
    obtain ⟨h0, h1⟩ := hl 0 (by simp)
    rw [chooseF]
    split
    · exact chooseF_edits l t _ _ _ hl' h
    · refine chooseF_edits l t _ _ _ hl' ?_
      rw [editsF_append, h]
      simp only [editsF, List.append_nil]
      rw [if_pos (by omega), Int.toNat_natCast, show l[i]! = f by simpa using h1]
/-- What is chosen may be made together. -/
theorem choose_checked {n : Nat} {l : List FindP} (h : ∀ f ∈ l, checkP n f.edits = 0) : checkP n (editsF l (chooseP l)) = 0 := by
  have h1 := chooseF_edits l l 0 [] [] (fun j h => ⟨by omega, by simp [h]⟩) rfl
  obtain ⟨h2, h3⟩ := chooseF_taken n l 0 [] [] .nil (fun e he => by cases he) h
  unfold chooseP
  rw [h1]
  exact apart_checked h2 h3

/-- The state of choosing behind i findings. -/
structure ChoAt (l : List FindP) (i : Nat) (ch : List Int) : Prop where
  st : ∃ tk, chooseF (l.drop i) i ch tk = chooseF l 0 [] [] ∧ ∀ a : List EditP, clashP a tk = ch.any fun c => clashP a l[c.toNat]!.edits
theorem choAt_start (l : List FindP) : ChoAt l 0 [] := ⟨[], rfl, fun a => by rw [clash_nil]; rfl⟩
/-- One is chosen, or it clashes with one that was chosen ahead. -/
theorem choAt_step {l : List FindP} {i : Nat} {ch : List Int} (h : ChoAt l i ch) (hi : i < l.length) :
    (ChoAt l (i + 1) (ch ++ [(i : Int)]) ∧ ∃ r, chooseP l = ch ++ (i : Int) :: r) ∨ (ChoAt l (i + 1) ch ∧ (ch.any fun c => clashP l[i].edits l[c.toNat]!.edits) = true ∧ ∃ r, chooseP l = ch ++ r ∧ ∀ c ∈ r, (i : Int) < c) := by
  obtain ⟨tk, h1, h2⟩ := h.st
  rw [List.drop_eq_getElem_cons hi, chooseF] at h1
  split at h1
  · rename_i hc
    refine .inr ⟨⟨tk, h1, h2⟩, by rw [← h2]; exact hc, ?_⟩
    obtain ⟨r, h3, h4⟩ := chooseF_tail (l.drop (i + 1)) (i + 1) ch tk
    refine ⟨r, ?_, fun c hc => by have := h4 c hc; omega⟩
    unfold chooseP
    rw [← h1]; exact h3
  · refine .inl ⟨⟨_, h1, fun a => ?_⟩, ?_⟩
    · rw [clashP_append, List.any_append, h2]
      simp [hi]
    · obtain ⟨r, h3, h4⟩ := chooseF_tail (l.drop (i + 1)) (i + 1) (ch ++ [(i : Int)]) (tk ++ l[i].edits)
      refine ⟨r, ?_⟩
      unfold chooseP
      rw [← h1, h3]; simp
theorem choAt_end {l : List FindP} {ch : List Int} (h : ChoAt l l.length ch) : chooseP l = ch := by
  obtain ⟨tk, h1, _⟩ := h.st
  unfold chooseP
  rw [← h1, List.drop_length]; rfl
end Go.Proofs.Ytkhpoeolnhfflaa
