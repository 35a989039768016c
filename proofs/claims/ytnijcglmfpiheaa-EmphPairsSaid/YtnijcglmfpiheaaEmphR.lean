/-
  Plain theory of the document's search among all rows: it finds what the stack's search finds. Conditions: none.
-/
import Derived.Test.YtnijcglmfpiheaaEmphL
set_option linter.unusedSimpArgs false
set_option linter.unusedVariables false
namespace Go.Proofs.Ytnijcglmfpiheaa

def fitsR (o c : RunP) : Bool := !((o.n.tmod 3 + c.n.tmod 3).tmod 3 == 0) || (o.n.tmod 3 == 0 && c.n.tmod 3 == 0) || (!c.op && !o.cl)
theorem fitsR_eq (o c : RunP) : fitsR o c = fitsP o c := by
  have key : ∀ a b : Int, (!((a + b.tmod 3).tmod 3 == 0) || (a == 0 && b.tmod 3 == 0)) = (!((a + b.tmod 3).tmod 3 == 0) || a == 0) := fun a b => by
    by_cases h0 : a = 0
    · subst h0
      rw [Int.zero_add]
      have e : (b.tmod 3).tmod 3 = b.tmod 3 := Int.tmod_tmod_of_dvd b (Int.dvd_refl 3)
      rw [e]
      cases hb : (b.tmod 3 == 0) <;> rfl
    · have : (a == 0) = false := beq_eq_false_iff_ne.2 h0
      rw [this]; rfl
  show (!((o.n.tmod 3 + c.n.tmod 3).tmod 3 == 0) || (o.n.tmod 3 == 0 && c.n.tmod 3 == 0) || (!c.op && !o.cl)) = (!((o.n.tmod 3 + c.n.tmod 3).tmod 3 == 0) || o.n.tmod 3 == 0 || (!c.op && !o.cl))
  rw [key]
/-- May o make emphasis with c? -/
def refGoes (l : List RunP) (c : Nat) (left : List Int) (dead : List Bool) (o : Nat) : Bool := l[o]!.op && !dead[o]! && (l[o]!.mark == l[c]!.mark) && !(left[o]! == 0) && fitsR l[o]! l[c]!
/-- The rows between o and c are dead. -/
def killP (o c : Nat) (dead : List Bool) : List Bool := dead.mapIdx fun k d => d || (decide (o < k) && decide (k < c))
theorem kill_len (o c : Nat) (dead : List Bool) : (killP o c dead).length = dead.length := by simp [killP]
theorem kill_get {o c k : Nat} {dead : List Bool} (h : k < dead.length) : (killP o c dead)[k]! = (dead[k]! || (decide (o < k) && decide (k < c))) := by
  rw [getElem!_pos (killP o c dead) k (by rw [kill_len]; exact h), getElem!_pos dead k h]
  simp [killP]
theorem kill_none (o : Nat) (dead : List Bool) : killP o (o + 1) dead = dead := by
  refine List.ext_getElem (kill_len _ _ _) fun k h1 h2 => ?_
  have : (decide (o < k) && decide (k < o + 1)) = false := by simp; omega
  simp [killP, this]
theorem kill_step {o k : Nat} {dead : List Bool} (h : o < k) : (killP o k dead).set k true = killP o (k + 1) dead := by
  refine List.ext_getElem (by simp [killP]) fun j h1 h2 => ?_
  rw [List.getElem_set]
  simp only [killP, List.getElem_mapIdx]
  split
  · rename_i e; subst e; simp [h]
  · rename_i e
    have : decide (j < k + 1) = decide (j < k) := by simp only [decide_eq_decide]; omega
    rw [this]

/-- The dead rows beside the stack. -/
structure RefI (l : List RunP) (c : Nat) (s : StP) (dead : List Bool) : Prop where
  len : dead.length = l.length
  live : ∀ x, c ≤ x → x < l.length → dead[x]! = false
  mem : ∀ x, x < c → (x ∈ s.stack ↔ l[x]!.op = true ∧ dead[x]! = false ∧ 0 < s.left[x]!)
theorem refI_start (l : List RunP) : RefI l 0 (startP l) (List.replicate l.length false) where
  len := by simp
  live := fun x _ h => by rw [getElem!_pos _ x (by simpa using h)]; simp
  mem := fun x h => by omega
theorem goes_ref {l : List RunP} {c : Nat} {s : StP} {dead : List Bool} (hg : GoodP l c s) (h : RefI l c s dead) {j : Nat} (hj : j < s.stack.length) : refGoes l c s.left dead s.stack[j]! = goesAt l c s.stack j := by
  obtain ⟨h1, h2, h3⟩ := hg.open_ _ (nthN_mem hj)
  obtain ⟨-, h5, -⟩ := (h.mem _ h1).1 (nthN_mem hj)
  unfold refGoes goesAt goesP
  rw [fitsR_eq, h2, h5, show (s.left[s.stack[j]!]! == 0) = false by rw [beq_eq_false_iff_ne]; omega]
  simp
/-- What the search over all rows finds is the stack's find. -/
theorem ref_find {l : List RunP} {c : Nat} {s : StP} {dead : List Bool} (hg : GoodP l c s) (h : RefI l c s dead) (hc : c ≤ l.length) : topP (refGoes l c s.left dead) c = (openP l c s).map fun i => s.stack[i]! := by
  have onStack : ∀ o, o < c → refGoes l c s.left dead o = true → o ∈ s.stack := fun o ho hgo => by
    simp only [refGoes, Bool.and_eq_true, Bool.not_eq_true', beq_eq_false_iff_ne] at hgo
    refine (h.mem o ho).2 ⟨hgo.1.1.1.1, hgo.1.1.1.2, ?_⟩
    have hol : o < s.left.length := by rw [hg.len]; omega
    have := hg.low _ (nth_mem hol)
    omega
  cases ho : openP l c s with
  | none =>
    refine topP_no fun o ho' => ?_
    cases hgo : refGoes l c s.left dead o with
    | false => rfl
    | true =>
      obtain ⟨j, hj, rfl⟩ := List.mem_iff_getElem.1 (onStack o ho' hgo)
      have h1 := goes_ref hg h hj
      rw [getElem!_pos s.stack j hj, hgo] at h1
      have h2 := topP_none (show topP (goesAt l c s.stack) s.stack.length = none from ho) j hj
      rw [h2] at h1
      exact absurd h1 (by simp)
  | some i =>
    obtain ⟨h1, h2, h3⟩ := openP_some ho
    refine topP_is (hg.open_ _ (nthN_mem h1)).1 (by show refGoes l c s.left dead s.stack[i]! = true; rw [goes_ref hg h h1]; exact h2) fun o h4 h5 => ?_
    have h4 : s.stack[i]! < o := h4
    cases hgo : refGoes l c s.left dead o with
    | false => rfl
    | true =>
      obtain ⟨j, hj, rfl⟩ := List.mem_iff_getElem.1 (onStack o h5 hgo)
      have hij : i < j := by
        rcases Nat.lt_trichotomy i j with h6 | h6 | h6
        · exact h6
        · subst h6; rw [getElem!_pos s.stack i h1] at h4; omega
        · have := List.pairwise_iff_getElem.1 hg.up j i hj h1 h6
          rw [getElem!_pos s.stack i h1] at h4; omega
      have h7 := goes_ref hg h hj
      rw [getElem!_pos s.stack j hj, hgo, h3 j hij hj] at h7
      exact absurd h7 (by simp)
theorem ref_pair {l : List RunP} {c i : Nat} {s : StP} {dead : List Bool} (hg : GoodP l c s) (h : RefI l c s dead) (hc : c < l.length) (hi : i < s.stack.length) (h0 : 0 < s.left[c]!) : RefI l c (pairP c i s) (killP s.stack[i]! c dead) := by
  have ho := hg.open_ _ (nthN_mem hi)
  have hoS : s.stack[i]! ∈ s.stack := nthN_mem hi
  have hup := List.pairwise_iff_getElem.1 hg.up
  have hne : s.stack[i]! ≠ c := by omega
  have hol : s.stack[i]! < s.left.length := by rw [hg.len]; omega
  have hcl : c < s.left.length := by rw [hg.len]; exact hc
  obtain ⟨t1, t2, t3, t4⟩ := takeN_pos ho.2.2 h0
  refine ⟨by rw [kill_len]; exact h.len, fun x hx hxl => ?_, fun x hx => ?_⟩
  · rw [kill_get (by rw [h.len]; exact hxl), h.live x hx hxl]
    simp; omega
  · rw [kill_get (by rw [h.len]; omega)]
    have hm := h.mem x hx
    simp only [pairP]
    have hlt : ∀ j (hj : j < s.stack.length), (s.stack[j] < s.stack[i]! ↔ j < i) := fun j hj => by
      rw [getElem!_pos s.stack i hi]
      constructor
      · intro h6
        rcases Nat.lt_trichotomy j i with h7 | h7 | h7
        · exact h7
        · subst h7; omega
        · have := hup i j hi hj h7; omega
      · exact fun h7 => hup j i hj hi h7
    have hmt : ∀ k, (x ∈ s.stack.take k ↔ ∃ j, ∃ hj : j < s.stack.length, j < k ∧ s.stack[j] = x) := fun k => by
      rw [List.mem_iff_getElem]
      constructor
      · rintro ⟨j, hj, rfl⟩
        rw [List.length_take] at hj
        exact ⟨j, by omega, by omega, by rw [List.getElem_take]⟩
      · rintro ⟨j, hj, hk, rfl⟩
        exact ⟨j, by rw [List.length_take]; omega, by rw [List.getElem_take]⟩
    generalize hO : s.stack[i]! = o at *
    generalize takeN s.left[o]! s.left[c]! = n at *
    have vo : ((s.left.set o (s.left[o]! - n)).set c (s.left[c]! - n))[o]! = s.left[o]! - n := by rw [get_set_ne (Ne.symm hne), get_set_eq hol]
    have vx : x ≠ o → ((s.left.set o (s.left[o]! - n)).set c (s.left[c]! - n))[x]! = s.left[x]! := fun h1 => by rw [get_set_ne (by omega), get_set_ne (Ne.symm h1)]
    have hoi : s.stack[i] = o := by rw [getElem!_pos s.stack i hi] at hO; exact hO
    rcases Nat.lt_trichotomy x o with h1 | h1 | h1
    · rw [vx (by omega)]
      have e1 : (decide (o < x) && decide (x < c)) = false := by simp; omega
      rw [e1, Bool.or_false, ← hm]
      have hin : ∀ k, i ≤ k → (x ∈ s.stack.take k ↔ x ∈ s.stack) := fun k hk => by
        rw [hmt]
        constructor
        · rintro ⟨j, hj, -, rfl⟩; exact List.getElem_mem hj
        · intro h2
          obtain ⟨j, hj, rfl⟩ := List.mem_iff_getElem.1 h2
          exact ⟨j, hj, by have := (hlt j hj).1 h1; omega, rfl⟩
      split
      · exact hin i (Nat.le_refl _)
      · exact hin (i + 1) (by omega)
    · subst h1
      rw [vo]
      have e1 : (decide (x < x) && decide (x < c)) = false := by simp
      obtain ⟨m1, m2, m3⟩ := hm.1 hoS
      rw [e1, m1, m2]
      split
      · rename_i hz
        constructor
        · intro h2
          obtain ⟨j, hj, hji, h3⟩ := (hmt i).1 h2
          have := (hlt j hj).2 hji
          omega
        · rintro ⟨-, -, h3⟩; omega
      · rename_i hz
        constructor
        · intro _; exact ⟨rfl, rfl, by omega⟩
        · intro _; exact (hmt (i + 1)).2 ⟨i, hi, by omega, hoi⟩
    · have e1 : (decide (o < x) && decide (x < c)) = true := by simp [h1, hx]
      rw [e1, Bool.or_true]
      have hnot : ∀ k, k ≤ i + 1 → x ∉ s.stack.take k := fun k hk h2 => by
        obtain ⟨j, hj, hjk, h3⟩ := (hmt k).1 h2
        rcases Nat.lt_or_ge j i with h4 | h4
        · have := (hlt j hj).2 h4; omega
        · obtain rfl : j = i := by omega
          omega
      constructor
      · intro h2
        split at h2
        · exact absurd h2 (hnot i (by omega))
        · exact absurd h2 (hnot (i + 1) (Nat.le_refl _))
      · rintro ⟨-, h2, -⟩; cases h2
theorem ref_push {l : List RunP} {c : Nat} {s : StP} {dead : List Bool} (hg : GoodP l c s) (h : RefI l c s dead) (hc : c < l.length) : RefI l (c + 1) (if l[c]!.op && decide (0 < s.left[c]!) then { s with stack := s.stack ++ [c] } else s) dead := by
  have hd := h.live c (Nat.le_refl _) hc
  have hnc : c ∉ s.stack := fun hm => by have := (hg.open_ c hm).1; omega
  refine ⟨h.len, fun x hx => h.live x (by omega), fun x hx => ?_⟩
  by_cases hxc : x = c
  · subst hxc
    rw [hd]
    split
    · rename_i hp
      simp only [Bool.and_eq_true, decide_eq_true_eq] at hp
      exact ⟨fun _ => ⟨hp.1, rfl, hp.2⟩, fun _ => List.mem_append_right _ (List.mem_singleton_self _)⟩
    · rename_i hp
      simp only [Bool.and_eq_true, decide_eq_true_eq, not_and] at hp
      constructor
      · intro h1; exact absurd h1 hnc
      · rintro ⟨h1, -, h2⟩; exact absurd h2 (hp h1)
  · have hm := h.mem x (by omega)
    split
    · simp only [List.mem_append, List.mem_singleton, hxc, or_false]; exact hm
    · exact hm

/-- What the rows from c on have left. -/
theorem pairP_later {l : List RunP} {c i x : Nat} {s : StP} (hg : GoodP l c s) (hi : i < s.stack.length) (hx : c < x) : (pairP c i s).left[x]! = s.left[x]! := by
  have ho := hg.open_ _ (nthN_mem hi)
  simp only [pairP]
  rw [get_set_ne (by omega), get_set_ne (by omega)]
theorem closeP_later {l : List RunP} {c x : Nat} (hc : c < l.length) (hx : c < x) {s : StP} (hg : GoodP l c s) : (closeP l c s).left[x]! = s.left[x]! :=
  closeP_keeps hc (fun t => t.left[x]! = s.left[x]!) (fun t i ht hgt _ ho => by rw [pairP_later hgt (openP_some ho).1 hx]; exact ht) s hg rfl
theorem goP_later (l : List RunP) : ∀ c, c ≤ l.length → ∀ x, c ≤ x → x < l.length → (goP l c).left[x]! = startL l[x]!
  | 0, _, x, _, hx => by show (l.map startL)[x]! = _; exact map_get hx
  | c + 1, h, x, h1, h2 => by
    have ih := goP_later l c (by omega) x (by omega) h2
    have hg := goP_good l c (by omega)
    rw [goP]
    unfold turnP
    have e : ∀ t : StP, t.left[x]! = (goP l c).left[x]! → (if l[c]!.op && decide (0 < t.left[c]!) then { t with stack := t.stack ++ [c] } else t).left[x]! = startL l[x]! := fun t ht => by split <;> exact ht.trans ih
    split
    · exact e _ (closeP_later (by omega) (by omega) hg)
    · exact e _ rfl
end Go.Proofs.Ytnijcglmfpiheaa
