/-
  Laws of the edits in plain Lean: bytes outside of them; one after the other; in whichever order. Conditions: as each says.
-/
import Derived.Test.YtkhpoeolnhfflaaEditAlive
set_option linter.unusedSimpArgs false
set_option linter.unusedVariables false
namespace Go.Proofs.Ytkhpoeolnhfflaa
open Go.Lib Go.Sort

/-- Edits one behind the other, from a place on, within n bytes. -/
def Chain (n : Nat) : Nat → List EditP → Prop
  | p, [] => p ≤ n
  | p, e :: t => (p : Int) ≤ e.fr ∧ e.fr ≤ e.to ∧ e.to ≤ (n : Int) ∧ Chain n e.to.toNat t
theorem chain_of {n : Nat} : ∀ (S : List EditP) (p : Nat), (∀ e ∈ S, 0 ≤ e.fr ∧ e.fr ≤ e.to ∧ e.to ≤ (n : Int)) → lapP S = false → (∀ h : 0 < S.length, (p : Int) ≤ S[0].fr) → p ≤ n → Chain n p S
  | [], p, _, _, _, hp => hp
  | [x], p, h, _, h0, hp => by
    obtain ⟨h1, h2, h3⟩ := h x (by simp)
    exact ⟨h0 (by simp), h2, h3, by show x.to.toNat ≤ n; omega⟩
  | x :: y :: t, p, h, hl, h0, hp => by
    obtain ⟨h1, h2, h3⟩ := h x (by simp)
    have hl2 : ¬ y.fr < x.to ∧ lapP (y :: t) = false := by
      simp only [lapP, Bool.or_eq_false_iff, decide_eq_false_iff_not] at hl
      exact hl
    refine ⟨h0 (by simp), h2, h3, chain_of (y :: t) x.to.toNat (fun e he => h e (List.mem_cons_of_mem _ he)) hl2.2 (fun _ => ?_) (by omega)⟩
    have := hl2.1
    show ((x.to.toNat : Nat) : Int) ≤ y.fr
    omega
theorem chain_checked {n : Nat} {l : List EditP} (h : checkP n l = 0) : Chain n 0 (ss ltE l) := by
  obtain ⟨h1, h2⟩ := checked_ok h
  exact chain_of _ 0 h1 h2 (fun h => (h1 _ (List.getElem_mem h)).1) (Nat.zero_le _)
theorem chain_le {n : Nat} : ∀ (S : List EditP) (p : Nat), Chain n p S → p ≤ n
  | [], _, h => h
  | e :: t, p, ⟨h1, h2, h3, _⟩ => by omega
theorem chain_all {n : Nat} : ∀ (S : List EditP) (p : Nat), Chain n p S → ∀ e ∈ S, (p : Int) ≤ e.fr ∧ e.fr ≤ e.to ∧ e.to ≤ (n : Int)
  | [], _, _ => fun e he => by cases he
  | x :: t, p, ⟨h1, h2, h3, h4⟩ => fun e he => by
    rcases List.mem_cons.1 he with rfl | he
    · exact ⟨h1, h2, h3⟩
    · have := chain_all t _ h4 e he
      exact ⟨by omega, this.2.1, this.2.2⟩

/-- What stands ahead of the first edit stays. -/
theorem apply_head (s : List UInt8) : ∀ (S : List EditP) (q p : Nat), q ≤ p → Chain s.length p S → applyB s q S = (s.drop q).take (p - q) ++ applyB s p S
  | [], q, p, hqp, h => by
    have h' : p ≤ s.length := h
    simp only [applyB]
    rw [show s.drop p = (s.drop q).drop (p - q) by rw [List.drop_drop]; congr 1; omega, List.take_append_drop]
  | e :: t, q, p, hqp, ⟨h1, h2, h3, h4⟩ => by
    simp only [applyB]
    rw [show s.drop p = (s.drop q).drop (p - q) by rw [List.drop_drop]; congr 1; omega, show e.fr.toNat - q = (p - q) + (e.fr.toNat - p) by omega, List.take_add]
    simp only [List.append_assoc]
theorem apply_length (s : List UInt8) : ∀ (S : List EditP) (p : Nat), Chain s.length p S → ((applyB s p S).length : Int) = (s.length : Int) - p + (S.map fun e => (e.text.size : Int) - (e.to - e.fr)).sum
  | [], p, h => by
    have h' : p ≤ s.length := h
    simp only [applyB, List.length_drop, List.map_nil, List.sum_nil]; omega
  | e :: t, p, ⟨h1, h2, h3, h4⟩ => by
    have ih := apply_length s t _ h4
    have e2 : e.text.data.toList.length = e.text.size := by rw [Array.length_toList]; rfl
    simp only [applyB, List.length_append, List.length_take, List.length_drop, List.map_cons, List.sum_cons, e2]
    omega

/-- A byte that no edit touches is there, where Move tells. -/
theorem apply_at (s : List UInt8) : ∀ (S : List EditP) (p o : Nat), Chain s.length p S → p ≤ o → o < s.length → (∀ e ∈ S, ¬ (e.fr ≤ (o : Int) ∧ (o : Int) < e.to)) →
    ∃ j : Nat, (j : Int) = (o : Int) - p + (S.map (dl o)).sum ∧ (applyB s p S)[j]? = s[o]?
  | [], p, o, h, hp, ho, _ => ⟨o - p, by simp; omega, by simp only [applyB, List.getElem?_drop]; congr 1; omega⟩
  | e :: t, p, o, ⟨h1, h2, h3, h4⟩, hp, ho, hn => by
    have hne := hn e (by simp)
    have e2 : e.text.data.toList.length = e.text.size := by rw [Array.length_toList]; rfl
    by_cases hto : e.to ≤ (o : Int)
    · obtain ⟨j, hj, hg⟩ := apply_at s t e.to.toNat o h4 (by omega) ho (fun x hx => hn x (List.mem_cons_of_mem _ hx))
      have hd : dl o e = (e.text.size : Int) - (e.to - e.fr) := by
        unfold dl
        rw [if_pos (.inr hto), Int.min_eq_left hto]
      refine ⟨(e.fr.toNat - p) + e.text.size + j, by simp only [List.map_cons, List.sum_cons, hd]; omega, ?_⟩
      simp only [applyB]
      rw [List.getElem?_append_right (by simp only [List.length_append, List.length_take, List.length_drop, e2]; omega)]
      rw [← hg]
      congr 1
      simp only [List.length_append, List.length_take, List.length_drop, e2]
      omega
    · have hfr : ¬ e.fr ≤ (o : Int) := fun h => hne ⟨h, by omega⟩
      have hz : ∀ x ∈ e :: t, dl o x = 0 := by
        intro x hx
        have hx2 : (o : Int) < x.fr ∧ (o : Int) < x.to := by
          rcases List.mem_cons.1 hx with rfl | hx
          · omega
          · have := chain_all t _ h4 x hx
            omega
        unfold dl
        rw [if_neg (by omega)]
      have hs0 : ∀ l : List EditP, (∀ x ∈ l, dl o x = 0) → (l.map (dl o)).sum = 0 := by
        intro l
        induction l with
        | nil => intro _; rfl
        | cons x t ih =>
          intro h
          simp only [List.map_cons, List.sum_cons, h x (by simp), ih (fun y hy => h y (List.mem_cons_of_mem _ hy))]; rfl
      refine ⟨o - p, by rw [hs0 _ hz]; omega, ?_⟩
      simp only [applyB, List.append_assoc]
      rw [List.getElem?_append_left (by simp only [List.length_take, List.length_drop]; omega), List.getElem?_take_of_lt (by omega), List.getElem?_drop]
      congr 1; omega

/-- One edit ahead of others: made last, it makes what it makes with them. -/
theorem apply_one (s : List UInt8) (e : EditP) (t : List EditP) (h : Chain s.length 0 (e :: t)) : applyB (applyB s 0 t) 0 [e] = applyB s 0 (e :: t) := by
  obtain ⟨h1, h2, h3, h4⟩ := h
  have hT : applyB s 0 t = s.take e.to.toNat ++ applyB s e.to.toNat t := by
    have := apply_head s t 0 e.to.toNat (Nat.zero_le _) h4
    simpa using this
  have hl : (s.take e.to.toNat).length = e.to.toNat := by rw [List.length_take]; omega
  simp only [applyB, List.drop_zero, Nat.sub_zero]
  rw [hT, List.take_append_of_le_length (by omega), List.take_take, Nat.min_eq_left (by omega), List.drop_append_of_le_length (by omega), List.drop_of_length_le (by omega), List.nil_append]

/-! ### in whichever order -/
theorem ss_distinct {a b : List EditP} (hp : a.Perm b) (hd : ∀ x ∈ a, ∀ y ∈ a, x.fr = y.fr → x.to = y.to → x = y) : ss ltE a = ss ltE b := by
  have hpp : (ss ltE a).Perm (ss ltE b) := (ss_perm ltE a).trans (hp.trans (ss_perm ltE b).symm)
  refine List.Perm.eq_of_pairwise (le := fun x y => ltE y x = false) (fun x y hx hy h1 h2 => ?_) (ss_up swoE a) (ss_up swoE b) hpp
  have hxa := (ss_perm ltE a).mem_iff.1 hx
  have hya := hp.mem_iff.2 ((ss_perm ltE b).mem_iff.1 hy)
  simp only [ltE, Bool.or_eq_false_iff, Bool.and_eq_false_iff, decide_eq_false_iff_not] at h1 h2
  exact hd x hxa y hya (by omega) (by omega)
theorem checkP_order {n : Nat} {a b : List EditP} (hp : a.Perm b) (hs : ss ltE a = ss ltE b) : checkP n a = checkP n b := by
  unfold checkP
  rw [hs, hp.any_eq]
theorem weigh_total : ∀ (l : List EditP) (n : Nat), weighP n l ≤ 50000 → n + (l.map fun e => e.text.size + 1).sum ≤ 50000
  | [], n, h => by
    have h' : n ≤ 50000 := h
    simpa using h'
  | x :: t, n, h => by
    by_cases hn : n ≤ 50000
    · rw [weighP, if_pos hn] at h
      have := weigh_total t _ h
      simp only [List.map_cons, List.sum_cons]; omega
    · rw [weighP, if_neg hn] at h; omega
end Go.Proofs.Ytkhpoeolnhfflaa
