/-
  Plain laws of emphasis: marks are counted, pairs are nested, rows of unlike marks are apart, two rows. Conditions: none.
-/
import Derived.Test.YtnijcglmfpiheaaEmphP
set_option linter.unusedSimpArgs false
set_option linter.unusedVariables false
namespace Go.Proofs.Ytnijcglmfpiheaa

/-- What the pairs took of row i. -/
def sumOf (i : Nat) (ps : List PairP) : Int := (ps.map fun p => (if p.o = (i : Int) then p.n else 0) + (if p.c = (i : Int) then p.n else 0)).sum
theorem sumOf_snoc (i : Nat) (ps : List PairP) (p : PairP) : sumOf i (ps ++ [p]) = sumOf i ps + ((if p.o = (i : Int) then p.n else 0) + (if p.c = (i : Int) then p.n else 0)) := by simp [sumOf]
/-- A pair that may be. -/
def PairOk (l : List RunP) (p : PairP) : Prop := ∃ o c : Nat, p.o = o ∧ p.c = c ∧ o < c ∧ c < l.length ∧ (p.n = 1 ∨ p.n = 2) ∧ l[o]!.op = true ∧ l[c]!.cl = true ∧ l[o]!.mark = l[c]!.mark
structure CountI (l : List RunP) (s : StP) : Prop where
  ok : ∀ p ∈ s.pairs, PairOk l p
  sum : ∀ i, i < l.length → s.left[i]! + sumOf i s.pairs = startL l[i]!
theorem countI_pair {l : List RunP} {c i : Nat} {s : StP} (hc : c < l.length) (hcl : l[c]!.cl = true) (h : CountI l s) (hg : GoodP l c s) (h0 : 0 < s.left[c]!) (ho : openP l c s = some i) : CountI l (pairP c i s) := by
  obtain ⟨hi, hgo, -⟩ := openP_some ho
  have hop := hg.open_ _ (nthN_mem hi)
  obtain ⟨t1, t2, t3, t4⟩ := takeN_pos hop.2.2 h0
  have hgo' : goesP l[s.stack[i]!]! l[c]! = true := hgo
  simp only [goesP, Bool.and_eq_true, beq_iff_eq] at hgo'
  simp only [pairP]
  generalize hO : s.stack[i]! = o at *
  generalize takeN s.left[o]! s.left[c]! = n at *
  refine ⟨fun p hp => ?_, fun j hj => ?_⟩
  · rcases List.mem_append.1 hp with h1 | h1
    · exact h.ok p h1
    · rw [List.mem_singleton.1 h1]
      exact ⟨o, c, rfl, rfl, hop.1, hc, by show n = 1 ∨ n = 2; omega, hop.2.1, hcl, hgo'.1⟩
  · have hs := h.sum j hj
    simp only [sumOf_snoc]
    have hol : o < s.left.length := by rw [hg.len]; omega
    have hcl2 : c < s.left.length := by rw [hg.len]; omega
    by_cases e1 : j = o
    · subst e1
      rw [get_set_ne (by omega), get_set_eq hol, if_pos rfl, if_neg (by omega)]
      omega
    · by_cases e2 : j = c
      · subst e2
        rw [get_set_eq (by simpa using hcl2), if_neg (by omega), if_pos rfl]
        omega
      · rw [get_set_ne (by omega), get_set_ne (by omega), if_neg (by omega), if_neg (by omega)]
        omega
theorem map_get {l : List RunP} {i : Nat} (h : i < l.length) : (l.map startL)[i]! = startL l[i]! := by
  rw [getElem!_pos _ i (by simpa using h), getElem!_pos l i h]; simp
theorem countI_go (l : List RunP) : ∀ c, c ≤ l.length → CountI l (goP l c)
  | 0, _ => ⟨fun p hp => (by cases hp), fun i hi => (by show (l.map startL)[i]! + 0 = _; rw [map_get hi]; omega)⟩
  | c + 1, h => by
    have ih := countI_go l c (by omega)
    have hg := goP_good l c (by omega)
    rw [goP]
    have push : ∀ t : StP, CountI l t → CountI l (if l[c]!.op && decide (0 < t.left[c]!) then { t with stack := t.stack ++ [c] } else t) := fun t ht => by
      split
      · exact ⟨ht.ok, ht.sum⟩
      · exact ht
    unfold turnP
    split
    · rename_i hcl
      exact push _ (closeP_keeps (by omega) (CountI l) (fun s i h1 h2 h3 h4 => countI_pair (by omega) hcl h1 h2 h3 h4) _ hg ih)
    · exact push _ ih
theorem solve_count (l : List RunP) : CountI l (solveP l) := countI_go l _ (Nat.le_refl _)
theorem solve_len (l : List RunP) : (solveP l).left.length = l.length := (goP_good l _ (Nat.le_refl _)).len
theorem solve_low (l : List RunP) : ∀ x ∈ (solveP l).left, 0 ≤ x := (goP_good l _ (Nat.le_refl _)).low
theorem solve_high (l : List RunP) : ∀ x ∈ (solveP l).left, x ≤ 1048576 := (goP_good l _ (Nat.le_refl _)).high

/-- The pairs' marks given back, as the law gives them back. -/
def addL (left : List Int) (p : PairP) : List Int :=
  let l1 := left.set p.o.toNat (left[p.o.toNat]! + p.n)
  l1.set p.c.toNat (l1[p.c.toNat]! + p.n)
theorem addL_len (left : List Int) (p : PairP) : (addL left p).length = left.length := by simp [addL]
theorem addL_get {l : List RunP} {left : List Int} {p : PairP} (hp : PairOk l p) (hl : left.length = l.length) (i : Nat) : (addL left p)[i]! = left[i]! + ((if p.o = (i : Int) then p.n else 0) + (if p.c = (i : Int) then p.n else 0)) := by
  obtain ⟨o, c, h1, h2, h3, h4, -⟩ := hp
  simp only [addL]
  rw [h1, h2, Int.toNat_natCast, Int.toNat_natCast]
  by_cases e1 : i = o
  · subst e1
    rw [get_set_ne (by omega), get_set_eq (by omega), if_pos rfl, if_neg (by omega)]; omega
  · by_cases e2 : i = c
    · subst e2
      rw [get_set_eq (by rw [List.length_set]; omega), get_set_ne (by omega), if_neg (by omega), if_pos rfl]; omega
    · rw [get_set_ne (by omega), get_set_ne (by omega), if_neg (by omega), if_neg (by omega)]; omega
theorem addAll_len : ∀ (ps : List PairP) (left : List Int), (ps.foldl addL left).length = left.length
  | [], _ => rfl
  | p :: t, left => by rw [List.foldl_cons, addAll_len t, addL_len]
theorem addAll_get {l : List RunP} : ∀ (ps : List PairP) (left : List Int), (∀ p ∈ ps, PairOk l p) → left.length = l.length → ∀ i, (ps.foldl addL left)[i]! = left[i]! + sumOf i ps
  | [], left, _, _, i => by simp [sumOf]
  | p :: t, left, h, hl, i => by
    rw [List.foldl_cons, addAll_get t _ (fun q hq => h q (List.mem_cons_of_mem _ hq)) (by rw [addL_len]; exact hl), addL_get (h p (by simp)) hl]
    simp only [sumOf, List.map_cons, List.sum_cons]
    omega
/-- All given back: what each row had. -/
theorem counts_law (l : List RunP) (i : Nat) (hi : i < l.length) : ((solveP l).pairs.foldl addL (solveP l).left)[i]! = startL l[i]! := by
  rw [addAll_get (l := l) _ _ (solve_count l).ok (solve_len l)]
  exact (solve_count l).sum i hi
/-- Along the way nothing grows beyond what a row had. -/
theorem sumOf_nonneg {l : List RunP} {ps : List PairP} (h : ∀ p ∈ ps, PairOk l p) (i : Nat) : 0 ≤ sumOf i ps := by
  induction ps with
  | nil => simp [sumOf]
  | cons p t ih =>
    have := ih fun q hq => h q (List.mem_cons_of_mem _ hq)
    obtain ⟨o, c, -, -, -, -, hn, -⟩ := h p (by simp)
    simp only [sumOf, List.map_cons, List.sum_cons] at this ⊢
    split <;> split <;> omega
theorem sumOf_take {l : List RunP} {ps : List PairP} (h : ∀ p ∈ ps, PairOk l p) (i k : Nat) : sumOf i (ps.take k) ≤ sumOf i ps := by
  have h1 : sumOf i ps = sumOf i (ps.take k) + sumOf i (ps.drop k) := by
    unfold sumOf
    conv => lhs; rw [← List.take_append_drop k ps]
    rw [List.map_append, List.sum_append]
  have := sumOf_nonneg (ps := ps.drop k) (fun p hp => h p (List.mem_of_mem_drop hp)) i
  omega
theorem back_le (l : List RunP) (k i : Nat) (hi : i < l.length) : (((solveP l).pairs.take k).foldl addL (solveP l).left)[i]! ≤ 1048576 ∧ 0 ≤ (((solveP l).pairs.take k).foldl addL (solveP l).left)[i]! := by
  have hok := (solve_count l).ok
  rw [addAll_get (l := l) _ _ (fun p hp => hok p (List.mem_of_mem_take hp)) (solve_len l)]
  have h1 := sumOf_take hok i k
  have h2 := (solve_count l).sum i hi
  have h3 := startL_le l[i]!
  have h4 := sumOf_nonneg (ps := (solveP l).pairs.take k) (fun p hp => hok p (List.mem_of_mem_take hp)) i
  have h5 := solve_low l _ (nth_mem (show i < (solveP l).left.length by rw [solve_len]; exact hi))
  omega

/-- Do pairs cross? -/
def crossP (a b : PairP) : Bool := (decide (a.o < b.o) && decide (b.o < a.c) && decide (a.c < b.c)) || (decide (b.o < a.o) && decide (a.o < b.c) && decide (b.c < a.c))
structure NestI (c : Nat) (s : StP) : Prop where
  ends : ∀ p ∈ s.pairs, p.c ≤ c
  within : ∀ p ∈ s.pairs, ∀ x ∈ s.stack, ¬ (p.o < (x : Nat) ∧ ((x : Nat) : Int) < p.c)
  apart : s.pairs.Pairwise fun a b => crossP a b = false
theorem nestI_pair {l : List RunP} {c i : Nat} {s : StP} (hc : c < l.length) (h : NestI c s) (hg : GoodP l c s) (h0 : 0 < s.left[c]!) (ho : openP l c s = some i) : NestI c (pairP c i s) := by
  obtain ⟨hi, -, -⟩ := openP_some ho
  have hm := nthN_mem hi
  have hop := hg.open_ _ hm
  have hup := List.pairwise_iff_getElem.1 hg.up
  have hO : s.stack[i]! = s.stack[i] := getElem!_pos s.stack i hi
  have hsub : ∀ x ∈ (pairP c i s).stack, x ∈ s.stack ∧ x ≤ s.stack[i]! := fun x hx => by
    simp only [pairP] at hx
    split at hx
    · refine ⟨List.mem_of_mem_take hx, ?_⟩
      obtain ⟨j, hj, rfl⟩ := List.mem_iff_getElem.1 hx
      rw [List.length_take] at hj
      rw [List.getElem_take, hO]
      have := hup j i (by omega) hi (by omega); omega
    · refine ⟨List.mem_of_mem_take hx, ?_⟩
      obtain ⟨j, hj, rfl⟩ := List.mem_iff_getElem.1 hx
      rw [List.length_take] at hj
      rw [List.getElem_take, hO]
      rcases Nat.lt_or_ge j i with h3 | h3
      · have := hup j i (by omega) hi h3; omega
      · obtain rfl : j = i := by omega
        exact Nat.le_refl _
  have hps : (pairP c i s).pairs = s.pairs ++ [⟨(s.stack[i]! : Nat), c, takeN s.left[s.stack[i]!]! s.left[c]!⟩] := rfl
  refine ⟨fun p hp => ?_, fun p hp x hx => ?_, ?_⟩
  · rw [hps] at hp
    rcases List.mem_append.1 hp with h1 | h1
    · exact h.ends p h1
    · rw [List.mem_singleton.1 h1]; exact Int.le_refl _
  · obtain ⟨h1, h2⟩ := hsub x hx
    rw [hps] at hp
    rcases List.mem_append.1 hp with h3 | h3
    · exact h.within p h3 x h1
    · rw [List.mem_singleton.1 h3]; show ¬ (((s.stack[i]! : Nat) : Int) < (x : Int) ∧ (x : Int) < (c : Int)); omega
  · rw [hps]
    refine List.pairwise_append.2 ⟨h.apart, List.pairwise_singleton _ _, fun a ha b hb => ?_⟩
    rw [List.mem_singleton.1 hb]
    have h1 := h.within a ha _ hm
    have h2 := h.ends a ha
    simp only [crossP, Bool.or_eq_false_iff, Bool.and_eq_false_iff, decide_eq_false_iff_not]
    omega
theorem nestI_go (l : List RunP) : ∀ c, c ≤ l.length → NestI c (goP l c)
  | 0, _ => ⟨fun p hp => (by cases hp), fun p hp => (by cases hp), .nil⟩
  | c + 1, h => by
    have ih := nestI_go l c (by omega)
    have hg := goP_good l c (by omega)
    rw [goP]
    have push : ∀ t : StP, NestI c t → NestI (c + 1) (if l[c]!.op && decide (0 < t.left[c]!) then { t with stack := t.stack ++ [c] } else t) := fun t ht => by
      split
      · refine ⟨fun p hp => by have := ht.ends p hp; omega, fun p hp x hx => ?_, ht.apart⟩
        have := ht.ends p hp
        rcases List.mem_append.1 hx with h1 | h1
        · exact ht.within p hp x h1
        · rw [List.mem_singleton.1 h1]; omega
      · exact ⟨fun p hp => by have := ht.ends p hp; omega, ht.within, ht.apart⟩
    unfold turnP
    split
    · exact push _ (closeP_keeps (by omega) (NestI c) (fun s i h1 h2 h3 h4 => nestI_pair (by omega) h1 h2 h3 h4) _ hg ih)
    · exact push _ ih
theorem nested_law (l : List RunP) (k i : Nat) (h : k < i) (hi : i < (solveP l).pairs.length) : crossP (solveP l).pairs[k] (solveP l).pairs[i] = false :=
  List.pairwise_iff_getElem.1 (nestI_go l _ (Nat.le_refl _)).apart k i (by have e : (goP l l.length).pairs.length = (solveP l).pairs.length := rfl; omega) hi h

/-! Rows behind rows. -/
def shiftP (m : Nat) (p : PairP) : PairP := ⟨p.o + m, p.c + m, p.n⟩
theorem get_app_left {α : Type} [Inhabited α] {a b : List α} {i : Nat} (h : i < a.length) : (a ++ b)[i]! = a[i]! := by
  rw [getElem!_pos (a ++ b) i (by simp; omega), getElem!_pos a i h, List.getElem_append_left h]
theorem get_app_right {α : Type} [Inhabited α] {a b : List α} {i : Nat} : (a ++ b)[a.length + i]! = b[i]! := by
  rcases Nat.lt_or_ge i b.length with h | h
  · rw [getElem!_pos (a ++ b) (a.length + i) (by simp; omega), getElem!_pos b i h, List.getElem_append_right (by omega)]; congr 1; omega
  · rw [getElem!_neg (a ++ b) (a.length + i) (by simp; omega), getElem!_neg b i (by omega)]
theorem get_map_add {s : List Nat} {m i : Nat} (h : i < s.length) : (s.map (· + m))[i]! = s[i]! + m := by
  rw [getElem!_pos (s.map (· + m)) i (by simpa using h), getElem!_pos s i h]; simp

/-- The first rows' state under more rows. -/
def moreP (b : List RunP) (s : StP) : StP := ⟨s.stack, s.left ++ b.map startL, s.pairs⟩
theorem moreP_open {a b : List RunP} {c : Nat} {s : StP} (hc : c < a.length) (hg : GoodP a c s) : openP (a ++ b) c (moreP b s) = openP a c s := by
  refine topP_congr fun j hj => ?_
  have := hg.open_ _ (nthN_mem hj)
  show goesP (a ++ b)[s.stack[j]!]! (a ++ b)[c]! = goesP a[s.stack[j]!]! a[c]!
  rw [get_app_left (by omega), get_app_left hc]
theorem moreP_left {a b : List RunP} {c : Nat} {s : StP} (hc : c < a.length) (hg : GoodP a c s) : (moreP b s).left[c]! = s.left[c]! := get_app_left (by rw [hg.len]; exact hc)
theorem moreP_pair {a b : List RunP} {c i : Nat} {s : StP} (hc : c < a.length) (hg : GoodP a c s) (hi : i < s.stack.length) : pairP c i (moreP b s) = moreP b (pairP c i s) := by
  have ho := hg.open_ _ (nthN_mem hi)
  have h1 : s.stack[i]! < s.left.length := by rw [hg.len]; omega
  have h2 : c < s.left.length := by rw [hg.len]; omega
  simp only [pairP, moreP]
  simp only [get_app_left h1, get_app_left h2, List.set_append_left _ _ h1]
  rw [List.set_append_left _ _ (by rw [List.length_set]; exact h2)]
theorem moreP_close {a b : List RunP} {c : Nat} (hc : c < a.length) : ∀ (k : Nat) (s : StP), GoodP a c s → closeF (a ++ b) c k (moreP b s) = moreP b (closeF a c k s)
  | 0, s, h => rfl
  | k + 1, s, h => by
    rw [closeF, closeF, moreP_left hc h, moreP_open hc h]
    split
    · rfl
    · rename_i h0
      cases ho : openP a c s with
      | none => rfl
      | some i =>
        have hi := (openP_some ho).1
        simp only
        rw [moreP_pair hc h hi]
        exact moreP_close hc k _ (pairP_good h hc hi (by omega)).1
theorem moreP_turn {a b : List RunP} {c : Nat} {s : StP} (hc : c < a.length) (hg : GoodP a c s) : turnP (a ++ b) c (moreP b s) = moreP b (turnP a c s) := by
  have push : ∀ t : StP, GoodP a c t → (if (a ++ b)[c]!.op && decide (0 < (moreP b t).left[c]!) then { moreP b t with stack := (moreP b t).stack ++ [c] } else moreP b t) = moreP b (if a[c]!.op && decide (0 < t.left[c]!) then { t with stack := t.stack ++ [c] } else t) := fun t ht => by
    rw [moreP_left hc ht, get_app_left hc]
    split <;> rfl
  unfold turnP
  rw [get_app_left hc]
  split
  · unfold closeP
    rw [moreP_left hc hg, moreP_close hc _ _ hg]
    have := push (closeP a c s) (closeP_good hc hg)
    rw [get_app_left hc] at this
    exact this
  · have := push s hg
    rw [get_app_left hc] at this
    exact this
theorem moreP_go (a b : List RunP) : ∀ c, c ≤ a.length → goP (a ++ b) c = moreP b (goP a c)
  | 0, _ => by simp [goP, startP, moreP]
  | c + 1, h => by rw [goP, goP, moreP_go a b c (by omega), moreP_turn (by omega) (goP_good a c (by omega))]

/-- The last rows' state behind other rows. -/
def behindP (m : Nat) (t s : StP) : StP := ⟨t.stack ++ s.stack.map (· + m), t.left ++ s.left, t.pairs ++ s.pairs.map (shiftP m)⟩
structure BehindI (a b : List RunP) (t : StP) : Prop where
  len : t.left.length = a.length
  stack : ∀ x ∈ t.stack, x < a.length
  unlike : ∀ x ∈ a, ∀ y ∈ b, x.mark ≠ y.mark
theorem behindP_left {a b : List RunP} {t s : StP} {c : Nat} (h : BehindI a b t) : (behindP a.length t s).left[a.length + c]! = s.left[c]! := by
  show (t.left ++ s.left)[a.length + c]! = _
  rw [← h.len]; exact get_app_right
theorem behindP_goes {a b : List RunP} {t s : StP} {c j : Nat} (h : BehindI a b t) (hj : j < s.stack.length) : goesAt (a ++ b) (a.length + c) (behindP a.length t s).stack (t.stack.length + j) = goesAt b c s.stack j := by
  show goesP (a ++ b)[(t.stack ++ s.stack.map (· + a.length))[t.stack.length + j]!]! (a ++ b)[a.length + c]! = goesP b[s.stack[j]!]! b[c]!
  rw [get_app_right, get_map_add hj, get_app_right, Nat.add_comm, get_app_right]
theorem behindP_open {a b : List RunP} {t s : StP} {c : Nat} (h : BehindI a b t) (hc : c < b.length) : openP (a ++ b) (a.length + c) (behindP a.length t s) = (openP b c s).map (t.stack.length + ·) := by
  have hlen : (behindP a.length t s).stack.length = t.stack.length + s.stack.length := by simp [behindP]
  cases ho : openP b c s with
  | some i =>
    obtain ⟨h1, h2, h3⟩ := openP_some ho
    show _ = some (t.stack.length + i)
    refine topP_is (by omega) (by rw [behindP_goes h h1]; exact h2) fun j h4 h5 => ?_
    obtain ⟨j', rfl⟩ : ∃ j', j = t.stack.length + j' := ⟨j - t.stack.length, by omega⟩
    rw [behindP_goes h (by omega)]
    exact h3 j' (by omega) (by omega)
  | none =>
    refine topP_no fun j hj => ?_
    rcases Nat.lt_or_ge j t.stack.length with h1 | h1
    · show goesP (a ++ b)[(t.stack ++ s.stack.map (· + a.length))[j]!]! (a ++ b)[a.length + c]! = false
      rw [get_app_left h1, get_app_right, get_app_left (h.stack _ (nthN_mem h1))]
      have hx := h.stack _ (nthN_mem h1)
      have := h.unlike a[t.stack[j]!]! (by rw [getElem!_pos a _ hx]; exact List.getElem_mem hx) b[c]! (by rw [getElem!_pos b c hc]; exact List.getElem_mem hc)
      unfold goesP
      rw [show (a[t.stack[j]!]!.mark == b[c]!.mark) = false by rw [beq_eq_false_iff_ne]; exact this]
      rfl
    · obtain ⟨j', rfl⟩ : ∃ j', j = t.stack.length + j' := ⟨j - t.stack.length, by omega⟩
      rw [behindP_goes h (by omega)]
      exact topP_none ho j' (by omega)
theorem behindP_pair {a b : List RunP} {t s : StP} {c i : Nat} (h : BehindI a b t) (hi : i < s.stack.length) : pairP (a.length + c) (t.stack.length + i) (behindP a.length t s) = behindP a.length t (pairP c i s) := by
  have e1 : (behindP a.length t s).stack[t.stack.length + i]! = a.length + s.stack[i]! := by
    show (t.stack ++ s.stack.map (· + a.length))[t.stack.length + i]! = _
    rw [get_app_right, get_map_add hi, Nat.add_comm]
  have e2 : ∀ x, (behindP a.length t s).left[a.length + x]! = s.left[x]! := fun x => behindP_left h
  have e3 : ∀ (L : List Int) x v, (t.left ++ L).set (a.length + x) v = t.left ++ L.set x v := fun L x v => by
    rw [← h.len, List.set_append_right _ _ (by omega)]; congr 2; omega
  have e4 : ∀ k, (behindP a.length t s).stack.take (t.stack.length + k) = t.stack ++ (s.stack.take k).map (· + a.length) := fun k => by
    show (t.stack ++ s.stack.map (· + a.length)).take (t.stack.length + k) = _
    rw [List.take_append, List.take_of_length_le (by omega)]; simp [List.map_take]
  have e5 := e4 (i + 1)
  rw [← Nat.add_assoc] at e5
  simp only [pairP, e1, e2, e4, e5]
  simp only [behindP, e3]
  refine congr (congr (congrArg StP.mk ?_) rfl) ?_
  · split <;> rfl
  · simp [shiftP, Int.add_comm]
theorem behindP_close {a b : List RunP} {t : StP} {c : Nat} (h : BehindI a b t) (hc : c < b.length) : ∀ (k : Nat) (s : StP), GoodP b c s → closeF (a ++ b) (a.length + c) k (behindP a.length t s) = behindP a.length t (closeF b c k s)
  | 0, s, hg => rfl
  | k + 1, s, hg => by
    rw [closeF, closeF, behindP_left h, behindP_open h hc]
    split
    · rfl
    · rename_i h0
      cases ho : openP b c s with
      | none => rfl
      | some i =>
        have hi := (openP_some ho).1
        simp only [Option.map_some]
        rw [behindP_pair h hi]
        exact behindP_close h hc k _ (pairP_good hg hc hi (by omega)).1
theorem behindP_turn {a b : List RunP} {t s : StP} {c : Nat} (h : BehindI a b t) (hc : c < b.length) (hg : GoodP b c s) : turnP (a ++ b) (a.length + c) (behindP a.length t s) = behindP a.length t (turnP b c s) := by
  have push : ∀ u : StP, (if b[c]!.op && decide (0 < u.left[c]!) then { behindP a.length t u with stack := (behindP a.length t u).stack ++ [a.length + c] } else behindP a.length t u) = behindP a.length t (if b[c]!.op && decide (0 < u.left[c]!) then { u with stack := u.stack ++ [c] } else u) := fun u => by
    split
    · simp [behindP, Nat.add_comm]
    · rfl
  unfold turnP
  rw [get_app_right]
  split
  · unfold closeP
    rw [behindP_left h, behindP_close h hc _ _ hg]
    simp only [behindP_left h]
    exact push _
  · simp only [behindP_left h]
    exact push _
theorem behindP_go {a b : List RunP} (hu : ∀ x ∈ a, ∀ y ∈ b, x.mark ≠ y.mark) : ∀ c, c ≤ b.length → goP (a ++ b) (a.length + c) = behindP a.length (solveP a) (goP b c)
  | 0, _ => by
    rw [Nat.add_zero, moreP_go a b _ (Nat.le_refl _)]
    simp [moreP, behindP, goP, startP, solveP]
  | c + 1, h => by
    have hg := goP_good a a.length (Nat.le_refl _)
    rw [← Nat.add_assoc, goP, goP, behindP_go hu c (by omega)]
    exact behindP_turn ⟨hg.len, fun x hx => (hg.open_ x hx).1, hu⟩ (by omega) (goP_good b c (by omega))
/-- Rows of unlike marks make what each makes by itself. -/
theorem apart_law {a b : List RunP} (hu : ∀ x ∈ a, ∀ y ∈ b, x.mark ≠ y.mark) : (solveP (a ++ b)).pairs = (solveP a).pairs ++ (solveP b).pairs.map (shiftP a.length) := by
  unfold solveP
  rw [List.length_append, behindP_go hu _ (Nat.le_refl _)]
  rfl

/-! Two rows. -/
def twoL (n m : Int) : List RunP := [⟨95, n, true, false⟩, ⟨95, m, false, true⟩]
/-- As many pairs as there are marks for. -/
def twosP : Nat → List PairP
  | 0 => []
  | 1 => [⟨0, 1, 1⟩]
  | k + 2 => ⟨0, 1, 2⟩ :: twosP k
theorem twosP_len : ∀ k, (twosP k).length = (k + 1) / 2
  | 0 => rfl
  | 1 => rfl
  | k + 2 => by rw [twosP, List.length_cons, twosP_len k]; omega
theorem twosP_get : ∀ (k i : Nat) (h : i < (twosP k).length), (twosP k)[i] = ⟨0, 1, if i + 1 = (twosP k).length ∧ k % 2 = 1 then 1 else 2⟩
  | 0, i, h => by simp [twosP] at h
  | 1, 0, h => rfl
  | 1, i + 1, h => by simp [twosP] at h
  | k + 2, 0, h => by
    have := twosP_len k
    rw [if_neg (by have e : (twosP (k + 2)).length = (twosP k).length + 1 := rfl; omega)]
    rfl
  | k + 2, i + 1, h => by
    have e : (twosP (k + 2)).length = (twosP k).length + 1 := rfl
    have h' : i < (twosP k).length := by omega
    have h0 : (twosP (k + 2))[i + 1] = (twosP k)[i] := rfl
    rw [h0, twosP_get k i h']
    by_cases hc : i + 1 = (twosP k).length ∧ k % 2 = 1
    · rw [if_pos hc, if_pos (by omega)]
    · rw [if_neg hc, if_neg (by omega)]
theorem two_close (n m : Int) : ∀ (k : Nat) (x y : Int) (ps : List PairP), 0 < x → 0 ≤ y → y.toNat ≤ k →
    closeF (twoL n m) 1 k ⟨[0], [x, y], ps⟩ = ⟨if x - min x y = 0 then [] else [0], [x - min x y, y - min x y], ps ++ twosP (min x y).toNat⟩
  | 0, x, y, ps, h1, h2, h3 => by
    obtain rfl : y = 0 := by omega
    have : min x 0 = 0 := by omega
    rw [closeF, this, if_neg (by omega)]
    simp [twosP]
  | k + 1, x, y, ps, h1, h2, h3 => by
    rw [closeF]
    show (if y ≤ 0 then _ else _) = _
    split
    · obtain rfl : y = 0 := by omega
      have : min x 0 = 0 := by omega
      rw [this, if_neg (by omega)]
      simp [twosP]
    · rename_i hy
      have ho : openP (twoL n m) 1 ⟨[0], [x, y], ps⟩ = some 0 := by
        have : fitsP ⟨95, n, true, false⟩ ⟨95, m, false, true⟩ = true := by simp [fitsP]
        simp [openP, topP, goesAt, twoL, goesP, this]
      rw [ho]
      show closeF (twoL n m) 1 k (pairP 1 0 ⟨[0], [x, y], ps⟩) = _
      have hp : pairP 1 0 ⟨[0], [x, y], ps⟩ = ⟨if x - takeN x y = 0 then [] else [0], [x - takeN x y, y - takeN x y], ps ++ [⟨0, 1, takeN x y⟩]⟩ := by
        simp only [pairP]; rfl
      rw [hp]
      rcases Int.lt_or_le 2 x with hx | hx
      · rw [if_neg (by unfold takeN; omega), two_close n m k _ _ _ (by unfold takeN; omega) (by unfold takeN; omega) (by unfold takeN; omega)]
        rcases Int.lt_or_le y 2 with h4 | h4
        · obtain rfl : y = 1 := by omega
          have e1 : takeN x 1 = 1 := by unfold takeN; omega
          have e2 : min x 1 = 1 := by omega
          rw [e1, e2, show min (x - 1) (1 - 1) = 0 by omega, if_neg (by omega), if_neg (by omega)]
          simp [twosP]
        · have e1 : takeN x y = 2 := by unfold takeN; omega
          rw [e1]
          have e2 : min (x - 2) (y - 2) = min x y - 2 := by omega
          have e3 : (min x y).toNat = (min x y - 2).toNat + 2 := by omega
          rw [e2, e3, twosP]
          rw [show x - 2 - (min x y - 2) = x - min x y by omega, show y - 2 - (min x y - 2) = y - min x y by omega]
          simp
      · have hdone : x - takeN x y = 0 ∨ (x = 2 ∧ y = 1) := by unfold takeN; omega
        rcases hdone with hd | ⟨rfl, rfl⟩
        · have hm : takeN x y = x ∧ min x y = x := by unfold takeN at hd ⊢; omega
          rw [hm.1, hm.2, if_pos (by omega)]
          have hn : ∀ L p, closeF (twoL n m) 1 k ⟨[], L, p⟩ = ⟨[], L, p⟩ := fun L p => by
            cases k with
            | zero => rfl
            | succ k => rw [closeF]; split <;> rfl
          rw [hn]
          rcases (show x = 1 ∨ x = 2 by omega) with rfl | rfl <;> simp [twosP]
        · have e1 : takeN 2 1 = 1 := by decide
          have e2 : min (1 : Int) 0 = 0 := by decide
          have e3 : min (2 : Int) 1 = 1 := by decide
          rw [e1, if_neg (by omega), two_close n m k _ _ _ (by omega) (by omega) (by omega)]
          simp [twosP, e2, e3]
theorem two_law (n m : Int) (hn : 1 ≤ n) (hm : 1 ≤ m) (hn2 : n ≤ 2000) (hm2 : m ≤ 2000) : (solveP (twoL n m)).pairs = twosP (min n m).toNat ∧ (solveP (twoL n m)).left = [n - min n m, m - min n m] := by
  have e0 : startP (twoL n m) = ⟨[], [n, m], []⟩ := by
    simp only [startP, twoL, List.map_cons, List.map_nil, startL]
    rw [if_neg (by omega), if_neg (by omega)]
  have e1 : goP (twoL n m) 1 = ⟨[0], [n, m], []⟩ := by
    rw [goP, goP, e0]
    have h1 : (twoL n m)[0]! = ⟨95, n, true, false⟩ := rfl
    have h2 : (0 : Int) < n := by omega
    simp [turnP, h1, h2]
  have e2 := two_close n m m.toNat n m [] (by omega) (by omega) (Nat.le_refl _)
  have e3 : solveP (twoL n m) = turnP (twoL n m) 1 ⟨[0], [n, m], []⟩ := by
    rw [← e1]; rfl
  have h1 : (twoL n m)[1]! = ⟨95, m, false, true⟩ := rfl
  rw [e3]
  unfold turnP
  rw [h1]
  simp only [if_true, Bool.false_and, Bool.false_eq_true, if_false]
  unfold closeP
  show (closeF (twoL n m) 1 m.toNat ⟨[0], [n, m], []⟩).pairs = _ ∧ (closeF (twoL n m) 1 m.toNat ⟨[0], [n, m], []⟩).left = _
  rw [e2]
  exact ⟨by simp, rfl⟩
end Go.Proofs.Ytnijcglmfpiheaa
