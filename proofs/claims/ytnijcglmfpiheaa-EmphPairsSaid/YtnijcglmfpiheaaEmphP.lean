/-
  Plain theory of rows of marks: what is opened, closed and left. Conditions: none.
-/
import Derived.KernelRfl
set_option linter.unusedSimpArgs false
set_option linter.unusedVariables false
namespace Go.Proofs.Ytnijcglmfpiheaa

/-- A row of marks. -/
structure RunP where
  mark : Int
  n : Int
  op : Bool
  cl : Bool
deriving Inhabited, DecidableEq
/-- Emphasis. -/
structure PairP where
  o : Int
  c : Int
  n : Int
deriving Inhabited, DecidableEq

def fitsP (o c : RunP) : Bool := !((o.n.tmod 3 + c.n.tmod 3).tmod 3 == 0) || o.n.tmod 3 == 0 || (!c.op && !o.cl)
def goesP (o c : RunP) : Bool := (o.mark == c.mark) && fitsP o c
def startL (r : RunP) : Int := if r.n < 1 ∨ 1048576 < r.n then 0 else r.n
theorem startL_nonneg (r : RunP) : 0 ≤ startL r := by unfold startL; split <;> omega
theorem startL_le (r : RunP) : startL r ≤ 1048576 := by unfold startL; split <;> omega

/-- The last place below n at which g holds. -/
def topP (g : Nat → Bool) : Nat → Option Nat
  | 0 => none
  | n + 1 => if g n then some n else topP g n
theorem topP_some {g : Nat → Bool} : ∀ {n i : Nat}, topP g n = some i → i < n ∧ g i = true ∧ ∀ j, i < j → j < n → g j = false
  | 0, i, h => by cases h
  | n + 1, i, h => by
    rw [topP] at h
    split at h
    · rename_i hg
      injection h with h
      subst h
      exact ⟨Nat.lt_succ_self _, hg, fun j h1 h2 => by omega⟩
    · rename_i hg
      obtain ⟨h1, h2, h3⟩ := topP_some h
      refine ⟨by omega, h2, fun j h4 h5 => ?_⟩
      rcases Nat.lt_or_ge j n with h6 | h6
      · exact h3 j h4 h6
      · obtain rfl : j = n := by omega
        simpa using hg
theorem topP_none {g : Nat → Bool} : ∀ {n : Nat}, topP g n = none → ∀ j, j < n → g j = false
  | 0, _, j, h => by omega
  | n + 1, h, j, hj => by
    rw [topP] at h
    split at h
    · cases h
    · rename_i hg
      rcases Nat.lt_or_ge j n with h6 | h6
      · exact topP_none h j h6
      · obtain rfl : j = n := by omega
        simpa using hg
theorem topP_is {g : Nat → Bool} : ∀ {n i : Nat}, i < n → g i = true → (∀ j, i < j → j < n → g j = false) → topP g n = some i
  | 0, i, h, _, _ => by omega
  | n + 1, i, h, h1, h2 => by
    rw [topP]
    rcases Nat.lt_or_ge i n with h6 | h6
    · rw [if_neg (by rw [h2 n h6 (Nat.lt_succ_self _)]; simp)]
      exact topP_is h6 h1 fun j h3 h4 => h2 j h3 (by omega)
    · obtain rfl : i = n := by omega
      rw [if_pos h1]
theorem topP_no {g : Nat → Bool} : ∀ {n : Nat}, (∀ j, j < n → g j = false) → topP g n = none
  | 0, _ => rfl
  | n + 1, h => by rw [topP, if_neg (by rw [h n (Nat.lt_succ_self _)]; simp)]; exact topP_no fun j hj => h j (by omega)
theorem topP_congr {g h : Nat → Bool} : ∀ {n : Nat}, (∀ j, j < n → g j = h j) → topP g n = topP h n
  | 0, _ => rfl
  | n + 1, e => by rw [topP, topP, e n (Nat.lt_succ_self _), topP_congr fun j hj => e j (by omega)]

/-- The rows that may still open (the last one last), how many marks each row has left, the pairs. -/
structure StP where
  stack : List Nat
  left : List Int
  pairs : List PairP

def goesAt (l : List RunP) (c : Nat) (stack : List Nat) (i : Nat) : Bool := goesP l[stack[i]!]! l[c]!
/-- The row of the stack that c goes with. -/
def openP (l : List RunP) (c : Nat) (s : StP) : Option Nat := topP (goesAt l c s.stack) s.stack.length
def takeN (a b : Int) : Int := min (min a b) 2
/-- One pair of the row at place i of the stack with c. -/
def pairP (c i : Nat) (s : StP) : StP :=
  let o := s.stack[i]!
  let n := takeN s.left[o]! s.left[c]!
  let left := (s.left.set o (s.left[o]! - n)).set c (s.left[c]! - n)
  ⟨if s.left[o]! - n = 0 then s.stack.take i else s.stack.take (i + 1), left, s.pairs ++ [⟨o, c, n⟩]⟩
/-- c closes what it can. -/
def closeF (l : List RunP) (c : Nat) : Nat → StP → StP
  | 0, s => s
  | k + 1, s => if s.left[c]! ≤ 0 then s else
    match openP l c s with
    | none => s
    | some i => closeF l c k (pairP c i s)
def closeP (l : List RunP) (c : Nat) (s : StP) : StP := closeF l c s.left[c]!.toNat s
/-- A row's turn. -/
def turnP (l : List RunP) (c : Nat) (s : StP) : StP :=
  let t := if l[c]!.cl then closeP l c s else s
  if l[c]!.op && decide (0 < t.left[c]!) then { t with stack := t.stack ++ [c] } else t
def startP (l : List RunP) : StP := ⟨[], l.map startL, []⟩
def goP (l : List RunP) : Nat → StP
  | 0 => startP l
  | c + 1 => turnP l c (goP l c)
/-- What is found, what is left. -/
def solveP (l : List RunP) : StP := goP l l.length

/-- What holds of the state while the rows below c have had their turn (e: c or c + 1). -/
structure GoodP (l : List RunP) (c : Nat) (s : StP) : Prop where
  len : s.left.length = l.length
  low : ∀ x ∈ s.left, 0 ≤ x
  high : ∀ x ∈ s.left, x ≤ 1048576
  open_ : ∀ x ∈ s.stack, x < c ∧ l[x]!.op = true ∧ 0 < s.left[x]!
  up : s.stack.Pairwise (· < ·)

theorem get_set_ne {l : List Int} {i j : Nat} {v : Int} (h : i ≠ j) : (l.set i v)[j]! = l[j]! := by
  simp only [List.getElem!_eq_getElem?_getD, List.getElem?_set_ne h]
theorem get_set_eq {l : List Int} {i : Nat} {v : Int} (h : i < l.length) : (l.set i v)[i]! = v := by
  simp only [List.getElem!_eq_getElem?_getD, List.getElem?_set_self h, Option.getD_some]
theorem nth_mem {l : List Int} {i : Nat} (h : i < l.length) : l[i]! ∈ l := by
  rw [getElem!_pos l i h]; exact List.getElem_mem h
theorem nthN_mem {l : List Nat} {i : Nat} (h : i < l.length) : l[i]! ∈ l := by
  rw [getElem!_pos l i h]; exact List.getElem_mem h
theorem takeN_pos {a b : Int} (ha : 0 < a) (hb : 0 < b) : 1 ≤ takeN a b ∧ takeN a b ≤ 2 ∧ takeN a b ≤ a ∧ takeN a b ≤ b := by unfold takeN; omega

theorem openP_some {l : List RunP} {c i : Nat} {s : StP} (h : openP l c s = some i) : i < s.stack.length ∧ goesAt l c s.stack i = true ∧ ∀ j, i < j → j < s.stack.length → goesAt l c s.stack j = false := topP_some h
theorem startP_good (l : List RunP) (c : Nat) : GoodP l c (startP l) where
  len := by simp [startP]
  low := fun x hx => by obtain ⟨r, _, rfl⟩ := List.mem_map.1 hx; exact startL_nonneg r
  high := fun x hx => by obtain ⟨r, _, rfl⟩ := List.mem_map.1 hx; exact startL_le r
  open_ := fun x hx => by cases hx
  up := .nil
/-- What one pair leaves behind. -/
theorem pairP_good {l : List RunP} {c i : Nat} {s : StP} (h : GoodP l c s) (hc : c < l.length) (hi : i < s.stack.length) (h0 : 0 < s.left[c]!) : GoodP l c (pairP c i s) ∧ (pairP c i s).left[c]! < s.left[c]! := by
  have ho := h.open_ _ (nthN_mem hi)
  have hup := List.pairwise_iff_getElem.1 h.up
  have hne : s.stack[i]! ≠ c := by omega
  have hol : s.stack[i]! < s.left.length := by rw [h.len]; omega
  have hcl : c < s.left.length := by rw [h.len]; exact hc
  obtain ⟨t1, t2, t3, t4⟩ := takeN_pos ho.2.2 h0
  have hoo := h.high _ (nth_mem hol)
  have hcc := h.high _ (nth_mem hcl)
  simp only [pairP]
  generalize hO : s.stack[i]! = o at *
  generalize takeN s.left[o]! s.left[c]! = n at *
  have vo : ((s.left.set o (s.left[o]! - n)).set c (s.left[c]! - n))[o]! = s.left[o]! - n := by rw [get_set_ne (Ne.symm hne), get_set_eq hol]
  have vc : ((s.left.set o (s.left[o]! - n)).set c (s.left[c]! - n))[c]! = s.left[c]! - n := get_set_eq (by simpa using hcl)
  have vx : ∀ x, x ≠ o → x ≠ c → ((s.left.set o (s.left[o]! - n)).set c (s.left[c]! - n))[x]! = s.left[x]! := fun x h1 h2 => by rw [get_set_ne (Ne.symm h2), get_set_ne (Ne.symm h1)]
  have hmem : ∀ x ∈ (s.left.set o (s.left[o]! - n)).set c (s.left[c]! - n), x = s.left[c]! - n ∨ x = s.left[o]! - n ∨ x ∈ s.left := fun x hx => by
    rcases List.mem_or_eq_of_mem_set hx with h1 | h1
    · rcases List.mem_or_eq_of_mem_set h1 with h2 | h2
      · exact .inr (.inr h2)
      · exact .inr (.inl h2)
    · exact .inl h1
  have hlow : ∀ x ∈ (s.left.set o (s.left[o]! - n)).set c (s.left[c]! - n), 0 ≤ x := fun x hx => by
    rcases hmem x hx with rfl | rfl | h1
    · omega
    · omega
    · exact h.low x h1
  have hhigh : ∀ x ∈ (s.left.set o (s.left[o]! - n)).set c (s.left[c]! - n), x ≤ 1048576 := fun x hx => by
    rcases hmem x hx with rfl | rfl | h1
    · omega
    · omega
    · exact h.high x h1
  have hbelow : ∀ j (hj : j < s.stack.length), j < i → s.stack[j] < o := fun j hj hji => by
    have := hup j i hj hi hji
    rw [getElem!_pos s.stack i hi] at hO
    omega
  refine ⟨⟨by simp only [List.length_set]; exact h.len, hlow, hhigh, ?_, ?_⟩, by simp only [vc]; omega⟩
  · intro x hx
    simp only at hx ⊢
    split at hx
    · obtain ⟨j, hj, rfl⟩ := List.mem_iff_getElem.1 hx
      rw [List.length_take] at hj
      rw [List.getElem_take]
      have h1 := h.open_ _ (List.getElem_mem (show j < s.stack.length by omega))
      have h2 := hbelow j (by omega) (by omega)
      rw [vx _ (by omega) (by omega)]
      exact h1
    · obtain ⟨j, hj, rfl⟩ := List.mem_iff_getElem.1 hx
      rw [List.length_take] at hj
      rw [List.getElem_take]
      have h1 := h.open_ _ (List.getElem_mem (show j < s.stack.length by omega))
      rcases Nat.lt_or_ge j i with h3 | h3
      · have h2 := hbelow j (by omega) h3
        rw [vx _ (by omega) (by omega)]
        exact h1
      · obtain rfl : j = i := by omega
        rw [getElem!_pos s.stack j hi] at hO
        rw [hO, vo]
        exact ⟨ho.1, ho.2.1, by omega⟩
  · simp only
    split
    · exact h.up.sublist (List.take_sublist _ _)
    · exact h.up.sublist (List.take_sublist _ _)

theorem closeF_good {l : List RunP} {c : Nat} (hc : c < l.length) : ∀ (k : Nat) (s : StP), GoodP l c s → GoodP l c (closeF l c k s)
  | 0, s, h => h
  | k + 1, s, h => by
    rw [closeF]
    split
    · exact h
    · rename_i h0
      split
      · exact h
      · rename_i i hi
        exact closeF_good hc k _ (pairP_good h hc (openP_some hi).1 (by omega)).1
/-- More fuel than marks changes nothing. -/
theorem closeF_fuel {l : List RunP} {c : Nat} (hc : c < l.length) : ∀ (k m : Nat) (s : StP), GoodP l c s → s.left[c]!.toNat ≤ k → s.left[c]!.toNat ≤ m → closeF l c k s = closeF l c m s
  | 0, 0, s, _, _, _ => rfl
  | 0, m + 1, s, h, h1, _ => by rw [closeF, closeF, if_pos (by omega)]
  | k + 1, 0, s, h, _, h1 => by rw [closeF, closeF, if_pos (by omega)]
  | k + 1, m + 1, s, h, h1, h2 => by
    rw [closeF, closeF]
    split
    · rfl
    · rename_i h0
      cases ho : openP l c s with
      | none => rfl
      | some i =>
        obtain ⟨g1, g2⟩ := pairP_good h hc (openP_some ho).1 (by omega)
        exact closeF_fuel hc k m _ g1 (by omega) (by omega)
/-- The steps of closing. -/
theorem closeP_done {l : List RunP} {c : Nat} {s : StP} (h : s.left[c]! ≤ 0) : closeP l c s = s := by
  unfold closeP
  rw [show s.left[c]!.toNat = 0 by omega, closeF]
theorem closeP_none {l : List RunP} {c : Nat} {s : StP} (h : openP l c s = none) : closeP l c s = s := by
  unfold closeP
  cases s.left[c]!.toNat with
  | zero => rfl
  | succ k => rw [closeF]; split; rfl; rw [h]
theorem closeP_step {l : List RunP} {c i : Nat} {s : StP} (hg : GoodP l c s) (hc : c < l.length) (h0 : 0 < s.left[c]!) (h : openP l c s = some i) : closeP l c s = closeP l c (pairP c i s) := by
  obtain ⟨g1, g2⟩ := pairP_good hg hc (openP_some h).1 h0
  unfold closeP
  obtain ⟨k, hk⟩ : ∃ k, s.left[c]!.toNat = k + 1 := ⟨s.left[c]!.toNat - 1, by omega⟩
  rw [hk, closeF, if_neg (by omega), h]
  exact closeF_fuel hc _ _ _ g1 (by omega) (by omega)
theorem closeP_good {l : List RunP} {c : Nat} {s : StP} (hc : c < l.length) (h : GoodP l c s) : GoodP l c (closeP l c s) := closeF_good hc _ _ h
theorem turnP_good {l : List RunP} {c : Nat} {s : StP} (hc : c < l.length) (h : GoodP l c s) : GoodP l (c + 1) (turnP l c s) := by
  have push : ∀ t : StP, GoodP l c t → GoodP l (c + 1) (if l[c]!.op && decide (0 < t.left[c]!) then { t with stack := t.stack ++ [c] } else t) := fun t ht => by
    split
    · rename_i hp
      simp only [Bool.and_eq_true, decide_eq_true_eq] at hp
      refine ⟨ht.len, ht.low, ht.high, fun x hx => ?_, ?_⟩
      · rcases List.mem_append.1 hx with h1 | h1
        · have := ht.open_ x h1; exact ⟨by omega, this.2⟩
        · rw [List.mem_singleton.1 h1]; exact ⟨by omega, hp⟩
      · refine List.pairwise_append.2 ⟨ht.up, List.pairwise_singleton _ _, fun a ha b hb => ?_⟩
        rw [List.mem_singleton.1 hb]; exact (ht.open_ a ha).1
    · exact ⟨ht.len, ht.low, ht.high, fun x hx => by have := ht.open_ x hx; exact ⟨by omega, this.2⟩, ht.up⟩
  unfold turnP
  split
  · exact push _ (closeP_good hc h)
  · exact push _ h
theorem goP_good (l : List RunP) : ∀ c, c ≤ l.length → GoodP l c (goP l c)
  | 0, _ => startP_good l 0
  | c + 1, h => turnP_good (by omega) (goP_good l c (by omega))
/-- What closing keeps, if one pair keeps it. -/
theorem closeP_keeps {l : List RunP} {c : Nat} (hc : c < l.length) (I : StP → Prop) (step : ∀ s i, I s → GoodP l c s → 0 < s.left[c]! → openP l c s = some i → I (pairP c i s)) : ∀ (s : StP), GoodP l c s → I s → I (closeP l c s) := by
  have aux : ∀ (k : Nat) (s : StP), GoodP l c s → I s → I (closeF l c k s) := by
    intro k
    induction k with
    | zero => intro s _ h; exact h
    | succ k ih =>
      intro s hg h
      rw [closeF]
      split
      · exact h
      · rename_i h0
        split
        · exact h
        · rename_i i hi
          exact ih _ (pairP_good hg hc (openP_some hi).1 (by omega)).1 (step s i h hg (by omega) hi)
  exact fun s => aux _ s
end Go.Proofs.Ytnijcglmfpiheaa
