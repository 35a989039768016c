/-
  Plain theory of trees: which ones are right, whose kid each node is, what the erased tree is. Conditions: none.
-/
import Derived.KernelRfl
set_option linter.unusedSimpArgs false
set_option linter.unusedVariables false
namespace Go.Proofs.YtlebikmiophghaaDoor

structure PieceP where
  fr : Int
  to : Int
deriving Inhabited, DecidableEq
/-- A part of a document. -/
structure NodeP where
  kind : Int
  fr : Int
  to : Int
  level : Int
  text : ByteArray
  link : ByteArray
  title : ByteArray
  tight : Bool
  kids : List Int
  pieces : List PieceP
deriving Inhabited

def blockK (k : Int) : Bool := decide (2 ≤ k) && decide (k ≤ 9) && !(k == 4)
def inlineK (k : Int) : Bool := decide (10 ≤ k) && decide (k ≤ 18)
def holdsP (kind kid : Int) : Bool :=
  if kind = 1 ∨ kind = 2 ∨ kind = 4 then blockK kid
  else if kind = 3 then kid == 4
  else if kind = 5 ∨ kind = 6 ∨ kind = 14 ∨ kind = 15 ∨ kind = 16 ∨ kind = 17 then inlineK kid
  else false
def levelP (n : NodeP) : Bool :=
  if n.kind = 6 then decide (1 ≤ n.level) && decide (n.level ≤ 6)
  else if n.kind = 3 then decide (-1 ≤ n.level) && decide (n.level ≤ 999999999)
  else if n.kind = 8 then n.level == 0 || decide (3 ≤ n.level)
  else if n.kind = 16 then decide (1 ≤ n.level) && decide (n.level ≤ 3)
  else if n.kind = 17 then n.level == 1 || n.level == 2
  else n.level == 0
def markL (level : Int) : List UInt8 := if 0 ≤ level then [46, 41] else [45, 43, 42]
def textP (n : NodeP) : Bool :=
  if n.kind = 3 then n.text.size == 1 && (markL n.level).any fun c => c == n.text.data[0]!
  else if n.kind = 8 ∨ n.kind = 9 ∨ n.kind = 13 ∨ n.kind = 18 then true
  else if n.kind = 10 then !(n.text.size == 0)
  else n.text.size == 0
def linkedP (n : NodeP) : Bool := n.kind == 16 || n.kind == 17
def knownP (n : NodeP) : Bool := decide (1 ≤ n.kind) && decide (n.kind ≤ 18)
def placesP (n : NodeP) : Bool := decide (0 ≤ n.fr) && decide (n.fr ≤ n.to) && n.pieces.length == 0
def extrasP (n : NodeP) : Bool := (n.link.size == 0 || linkedP n || n.kind == 8) && (n.title.size == 0 || linkedP n) && (!n.tight || n.kind == 3 || n.kind == 6)
def fieldsP (n : NodeP) : Bool := knownP n && placesP n && extrasP n && levelP n && textP n && (!(n.kind == 3) || decide (0 < n.kids.length))

/-- The nodes whose kids are yet to come (the innermost one first), each with how many have come: those of which all have come are struck. -/
def popP (t : List NodeP) : List (Nat × Nat) → List (Nat × Nat)
  | [] => []
  | (p, d) :: r => if d = t[p]!.kids.length then popP t r else (p, d) :: r
/-- One node: its parent, and the nodes whose kids are yet to come behind it. -/
def stepP (t : List NodeP) (i : Nat) (st : List (Nat × Nat)) : Option (Int × List (Nat × Nat)) :=
  match popP t st with
  | [] => if i = 0 ∧ fieldsP t[i]! = true then some (-1, [(i, 0)]) else none
  | (p, d) :: r => if fieldsP t[i]! = true ∧ t[p]!.kids[d]! = (i : Int) ∧ holdsP t[p]!.kind t[i]!.kind = true ∧ t[p]!.fr ≤ t[i]!.fr ∧ t[i]!.to ≤ t[p]!.to then some ((p : Int), (i, 0) :: (p, d + 1) :: r) else none
/-- The parents of the first i nodes, and the nodes whose kids are yet to come. -/
def goT (t : List NodeP) : Nat → Option (List Int × List (Nat × Nat))
  | 0 => some ([], [])
  | i + 1 => match goT t i with
    | none => none
    | some (up, st) => match stepP t i st with
      | none => none
      | some (p, st') => some (up ++ [p], st')
def doneP (t : List NodeP) (st : List (Nat × Nat)) : Bool := st.all fun x => x.2 == t[x.1]!.kids.length
def parentsP (t : List NodeP) : Option (List Int) :=
  if 0 < t.length ∧ t[0]!.kind = 1 then
    match goT t t.length with
    | none => none
    | some (up, st) => if doneP t st then some up else none
  else none

/-! What holds along the way. -/
def IncP (l : List Int) (i : Nat) : Prop := l.Pairwise (· < ·) ∧ ∀ x ∈ l, 0 < x ∧ x < (i : Int)
theorem IncP.mono {l : List Int} {i j : Nat} (h : IncP l i) (hij : i ≤ j) : IncP l j := ⟨h.1, fun x hx => by have := h.2 x hx; omega⟩
/-- A node's parent. -/
def UpP (t : List NodeP) (j : Nat) (v : Int) : Prop := (j = 0 ∧ v = -1) ∨ (0 < j ∧ ∃ p : Nat, v = p ∧ p < j ∧ (j : Int) ∈ t[p]!.kids ∧ t[p]!.fr ≤ t[j]!.fr ∧ t[j]!.to ≤ t[p]!.to)
structure RightI (t : List NodeP) (i : Nat) (up : List Int) (st : List (Nat × Nat)) : Prop where
  len : up.length = i
  flds : ∀ j, j < i → fieldsP t[j]! = true
  low : ∀ x ∈ st, x.1 < i ∧ x.2 ≤ t[x.1]!.kids.length
  some_ : ∀ x ∈ st, IncP (t[x.1]!.kids.take x.2) i
  all_ : ∀ j, j < i → (∃ d, (j, d) ∈ st) ∨ IncP t[j]!.kids i
  ups : ∀ j (h : j < up.length), UpP t j up[j]
  none_ : st = [] → i = 0 ∨ ∀ j, j < i → IncP t[j]!.kids i
theorem rightI_start (t : List NodeP) : RightI t 0 [] [] where
  len := rfl
  flds := fun j h => by omega
  low := fun x hx => by cases hx
  some_ := fun x hx => by cases hx
  all_ := fun j h => by omega
  ups := fun j h => by cases h
  none_ := fun _ => .inl rfl
theorem popP_sub (t : List NodeP) : ∀ (st : List (Nat × Nat)), ∃ a, st = a ++ popP t st ∧ ∀ x ∈ a, x.2 = t[x.1]!.kids.length
  | [] => ⟨[], rfl, fun x hx => by cases hx⟩
  | (p, d) :: r => by
    rw [popP]
    split
    · rename_i h
      obtain ⟨a, h1, h2⟩ := popP_sub t r
      refine ⟨(p, d) :: a, ?_, fun x hx => ?_⟩
      · rw [List.cons_append, ← h1]
      · rcases List.mem_cons.1 hx with rfl | hx
        · exact h
        · exact h2 x hx
    · exact ⟨[], rfl, fun x hx => by cases hx⟩
theorem popP_head {t : List NodeP} : ∀ {st : List (Nat × Nat)} {p d : Nat} {r : List (Nat × Nat)}, popP t st = (p, d) :: r → d ≠ t[p]!.kids.length
  | [], p, d, r, h => by cases h
  | (a, b) :: s, p, d, r, h => by
    rw [popP] at h
    split at h
    · exact popP_head h
    · rename_i hne
      injection h with h1 h2
      injection h1 with h1 h3
      subst h1 h3
      exact hne
theorem rightI_pop {t : List NodeP} {i : Nat} {up : List Int} {st : List (Nat × Nat)} (h : RightI t i up st) : RightI t i up (popP t st) := by
  obtain ⟨a, h1, h2⟩ := popP_sub t st
  have hin : ∀ x ∈ popP t st, x ∈ st := fun x hx => by rw [h1]; exact List.mem_append_right _ hx
  have hall : ∀ j, j < i → (∃ d, (j, d) ∈ popP t st) ∨ IncP t[j]!.kids i := fun j hj => by
    rcases h.all_ j hj with ⟨d, hd⟩ | h3
    · have hd' := hd
      rw [h1] at hd'
      rcases List.mem_append.1 hd' with h4 | h4
      · right
        have := h.some_ _ hd
        have h5 := h2 _ h4
        simp only at h5 this
        rw [h5, List.take_length] at this
        exact this
      · exact .inl ⟨d, h4⟩
    · exact .inr h3
  refine ⟨h.len, h.flds, fun x hx => h.low x (hin x hx), fun x hx => h.some_ x (hin x hx), hall, h.ups, fun he => .inr fun j hj => ?_⟩
  rcases hall j hj with ⟨d, hd⟩ | h3
  · rw [he] at hd; cases hd
  · exact h3
theorem getBang {l : List Int} {d : Nat} (h : d < l.length) : l[d]! = l[d] := getElem!_pos l d h
theorem rightI_step {t : List NodeP} {i : Nat} {up : List Int} {st st' : List (Nat × Nat)} {p : Int} (h : RightI t i up st) (hs : stepP t i st = some (p, st')) : RightI t (i + 1) (up ++ [p]) st' := by
  have hp := rightI_pop h
  unfold stepP at hs
  cases he : popP t st with
  | nil =>
    rw [he] at hs hp
    simp only at hs
    split at hs
    · rename_i hc
      obtain ⟨rfl, hf⟩ := hc
      injection hs with hs
      injection hs with h1 h2
      subst h1 h2
      have hu : up = [] := List.length_eq_zero_iff.1 hp.len
      subst hu
      refine ⟨rfl, fun j hj => ?_, fun x hx => ?_, fun x hx => ?_, fun j hj => ?_, fun j hj => ?_, fun h => by cases h⟩
      · obtain rfl : j = 0 := by omega
        exact hf
      · rw [List.mem_singleton.1 hx]; exact ⟨by simp, Nat.zero_le _⟩
      · rw [List.mem_singleton.1 hx]; exact ⟨.nil, fun x hx => by cases hx⟩
      · obtain rfl : j = 0 := by omega
        exact .inl ⟨0, List.mem_singleton_self _⟩
      · obtain rfl : j = 0 := by simpa using hj
        exact .inl ⟨rfl, rfl⟩
    · cases hs
  | cons x r =>
    obtain ⟨q, d⟩ := x
    rw [he] at hs hp
    simp only at hs
    split at hs
    · rename_i hc
      obtain ⟨hf, hk, hh, h1, h2⟩ := hc
      injection hs with hs
      injection hs with e1 e2
      subst e1 e2
      have hl := hp.low (q, d) (by simp)
      simp only at hl
      have hne := popP_head he
      have hd : d < t[q]!.kids.length := by omega
      have hinc := hp.some_ (q, d) (by simp)
      simp only at hinc
      have hk' : t[q]!.kids[d] = (i : Int) := by rw [← getBang hd]; exact hk
      have htk : t[q]!.kids.take (d + 1) = t[q]!.kids.take d ++ [(i : Int)] := by rw [List.take_succ_eq_append_getElem hd, hk']
      have hinc' : IncP (t[q]!.kids.take (d + 1)) (i + 1) := by
        rw [htk]
        refine ⟨List.pairwise_append.2 ⟨hinc.1, List.pairwise_singleton _ _, fun a ha b hb => ?_⟩, fun x hx => ?_⟩
        · rw [List.mem_singleton.1 hb]; exact (hinc.2 a ha).2
        · rcases List.mem_append.1 hx with hx | hx
          · have := hinc.2 x hx; omega
          · rw [List.mem_singleton.1 hx]; omega
      refine ⟨by simp [hp.len], fun j hj => ?_, fun x hx => ?_, fun x hx => ?_, fun j hj => ?_, fun j hj => ?_, fun h => by cases h⟩
      · rcases Nat.lt_or_ge j i with hji | hji
        · exact hp.flds j hji
        · obtain rfl : j = i := by omega
          exact hf
      · rcases List.mem_cons.1 hx with rfl | hx
        · exact ⟨by simp, Nat.zero_le _⟩
        · rcases List.mem_cons.1 hx with rfl | hx
          · exact ⟨by show q < i + 1; omega, by show d + 1 ≤ t[q]!.kids.length; omega⟩
          · have := hp.low x (List.mem_cons_of_mem _ hx); exact ⟨by omega, this.2⟩
      · rcases List.mem_cons.1 hx with rfl | hx
        · exact ⟨.nil, fun x hx => by cases hx⟩
        · rcases List.mem_cons.1 hx with rfl | hx
          · exact hinc'
          · exact (hp.some_ x (List.mem_cons_of_mem _ hx)).mono (by omega)
      · rcases Nat.lt_or_ge j i with hji | hji
        · rcases hp.all_ j hji with ⟨e, hm⟩ | h3
          · rcases List.mem_cons.1 hm with h4 | h4
            · injection h4 with h5 h6
              subst h5
              exact .inl ⟨d + 1, by simp⟩
            · exact .inl ⟨e, by simp [h4]⟩
          · exact .inr (h3.mono (by omega))
        · obtain rfl : j = i := by omega
          exact .inl ⟨0, by simp⟩
      · rw [List.length_append, List.length_singleton] at hj
        rcases Nat.lt_or_ge j up.length with hji | hji
        · rw [List.getElem_append_left hji]; exact hp.ups j hji
        · obtain rfl : j = up.length := by omega
          rw [List.getElem_append_right (Nat.le_refl _)]
          simp only [Nat.sub_self, List.getElem_singleton]
          have hlen := hp.len
          refine .inr ⟨by omega, q, rfl, by omega, ?_, by rw [hlen]; exact h1, by rw [hlen]; exact h2⟩
          rw [hlen, ← hk']
          exact List.getElem_mem hd
    · cases hs
theorem rightI_go {t : List NodeP} : ∀ {i : Nat} {up : List Int} {st : List (Nat × Nat)}, goT t i = some (up, st) → RightI t i up st
  | 0, up, st, h => by
    rw [goT] at h
    injection h with h
    injection h with h1 h2
    subst h1 h2
    exact rightI_start t
  | i + 1, up, st, h => by
    rw [goT] at h
    cases hg : goT t i with
    | none => rw [hg] at h; cases h
    | some x =>
      obtain ⟨u, s⟩ := x
      rw [hg] at h
      simp only at h
      cases hs : stepP t i s with
      | none => rw [hs] at h; cases h
      | some y =>
        obtain ⟨p, s'⟩ := y
        rw [hs] at h
        simp only at h
        injection h with h
        injection h with h1 h2
        subst h1 h2
        exact rightI_step (rightI_go hg) hs

/-- What a right tree is. -/
structure RightT (t : List NodeP) (up : List Int) : Prop where
  pos : 0 < t.length
  doc : t[0]!.kind = 1
  len : up.length = t.length
  flds : ∀ j, j < t.length → fieldsP t[j]! = true
  inc : ∀ j, j < t.length → IncP t[j]!.kids t.length
  ups : ∀ j (h : j < up.length), UpP t j up[j]
theorem parents_right {t : List NodeP} {up : List Int} (h : parentsP t = some up) : RightT t up := by
  unfold parentsP at h
  split at h
  · rename_i hc
    cases hg : goT t t.length with
    | none => rw [hg] at h; cases h
    | some x =>
      obtain ⟨u, st⟩ := x
      rw [hg] at h
      simp only at h
      split at h
      · rename_i hd
        injection h with h
        subst h
        have hi := rightI_go hg
        refine ⟨hc.1, hc.2, hi.len, hi.flds, fun j hj => ?_, hi.ups⟩
        rcases hi.all_ j hj with ⟨d, hm⟩ | h3
        · have h1 := List.all_eq_true.1 hd _ hm
          simp only [beq_iff_eq] at h1
          have h2 := hi.some_ _ hm
          simp only at h2
          rw [h1, List.take_length] at h2
          exact h2
        · exact h3
      · cases h
  · cases h

/-! TreeParts. -/
theorem count_inc {x : Int} : ∀ {l : List Int}, l.Pairwise (· < ·) → x ∈ l → l.count x = 1
  | [], _, h => by cases h
  | a :: l, hp, h => by
    rw [List.pairwise_cons] at hp
    rw [List.count_cons]
    rcases List.mem_cons.1 h with rfl | h
    · have : l.count x = 0 := List.count_eq_zero.2 fun hm => by have := hp.1 x hm; omega
      rw [this]; simp
    · have h1 := hp.1 x h
      have : (a == x) = false := by rw [beq_eq_false_iff_ne]; omega
      rw [this, count_inc hp.2 h]; simp
theorem parts_law {t : List NodeP} {up : List Int} (h : RightT t up) : up[0]! = -1 ∧ ∀ j, 0 < j → j < t.length → ∃ p : Nat, up[j]! = p ∧ p < j ∧ t[p]!.fr ≤ t[j]!.fr ∧ t[j]!.to ≤ t[p]!.to ∧ t[p]!.kids.count (j : Int) = 1 := by
  have hl := h.len
  have hp := h.pos
  constructor
  · rw [getElem!_pos up 0 (by omega)]
    rcases h.ups 0 (by omega) with ⟨-, h1⟩ | ⟨h1, -⟩
    · exact h1
    · omega
  · intro j h0 hj
    rw [getElem!_pos up j (by omega)]
    rcases h.ups j (by omega) with ⟨h1, -⟩ | ⟨-, p, h1, h2, h3, h4, h5⟩
    · omega
    · exact ⟨p, h1, h2, h4, h5, count_inc (h.inc p (by omega)).1 h3⟩

/-! TreeWrong. -/
theorem wrong_kid {t : List NodeP} {at_ : Nat} (hat : at_ < t.length) (v : NodeP) (k : Int) (hv : v.kids = t[at_]!.kids ++ [k]) (hk : k = (t.length : Int) ∨ k ∈ t[at_]!.kids) : parentsP (t.set at_ v) = none := by
  cases h : parentsP (t.set at_ v) with
  | none => rfl
  | some up =>
    have hr := parents_right h
    have hi := hr.inc at_ (by rw [List.length_set]; exact hat)
    have e : (t.set at_ v)[at_]! = v := by rw [getElem!_pos _ at_ (by rw [List.length_set]; exact hat), List.getElem_set_self]
    rw [e, hv, List.length_set] at hi
    obtain ⟨h1, h2⟩ := hi
    rcases hk with rfl | hk
    · have := (h2 _ (List.mem_append_right _ (List.mem_singleton_self _))).2
      omega
    · have := (List.pairwise_append.1 h1).2.2 k hk k (List.mem_singleton_self _)
      omega
theorem wrong_fields {t : List NodeP} {at_ : Nat} (hat : at_ < t.length) (v : NodeP) (hv : fieldsP v = false) : parentsP (t.set at_ v) = none := by
  cases h : parentsP (t.set at_ v) with
  | none => rfl
  | some up =>
    have hr := parents_right h
    have hi := hr.flds at_ (by rw [List.length_set]; exact hat)
    have e : (t.set at_ v)[at_]! = v := by rw [getElem!_pos _ at_ (by rw [List.length_set]; exact hat), List.getElem_set_self]
    rw [e, hv] at hi
    cases hi
theorem wrong_more {t : List NodeP} {up : List Int} (hr : RightT t up) (v : NodeP) : parentsP (t ++ [v]) = none := by
  cases h : parentsP (t ++ [v]) with
  | none => rfl
  | some up' =>
    have h2 := parents_right h
    have hl := h2.len
    have hp := hr.pos
    rw [List.length_append, List.length_singleton] at hl
    rcases h2.ups t.length (by omega) with ⟨h3, -⟩ | ⟨-, p, -, h4, h5, -⟩
    · omega
    · have e : (t ++ [v])[p]! = t[p]! := by
        rw [getElem!_pos (t ++ [v]) p (by simp; omega), getElem!_pos t p h4, List.getElem_append_left h4]
      rw [e] at h5
      have := ((hr.inc p h4).2 _ h5).2
      omega
theorem fields_kind {v : NodeP} (h : v.kind = 19) : fieldsP v = false := by
  have : knownP v = false := by simp [knownP, h]
  simp [fieldsP, this]
theorem fields_places {v : NodeP} (h : v.fr < 0 ∨ v.to < v.fr ∨ v.pieces ≠ []) : fieldsP v = false := by
  have : placesP v = false := by
    unfold placesP
    rcases h with h | h | h
    · rw [decide_eq_false (by omega)]; rfl
    · rw [decide_eq_false (show ¬ v.fr ≤ v.to by omega)]; simp
    · have : (v.pieces.length == 0) = false := by
        rw [beq_eq_false_iff_ne]; exact fun e => h (List.length_eq_zero_iff.1 e)
      rw [this]; simp
  simp [fieldsP, this]
theorem fields_to {v : NodeP} (h : fieldsP v = true) : 0 ≤ v.fr ∧ v.fr ≤ v.to ∧ v.pieces = [] ∧ 1 ≤ v.kind ∧ v.kind ≤ 18 := by
  simp only [fieldsP, placesP, knownP, Bool.and_eq_true, decide_eq_true_eq, beq_iff_eq] at h
  obtain ⟨⟨⟨⟨⟨⟨h1, h2⟩, ⟨h3, h4⟩, h5⟩, -⟩, -⟩, -⟩, -⟩ := h
  exact ⟨h3, h4, List.length_eq_zero_iff.1 h5, h1, h2⟩

/-! TreeErases. -/
def eraseN (n : NodeP) : NodeP := { n with fr := 0, to := 0, pieces := [] }
theorem fields_erase {n : NodeP} (h : fieldsP n = true) : fieldsP (eraseN n) = true := by
  have e1 : knownP (eraseN n) = knownP n := rfl
  have e2 : extrasP (eraseN n) = extrasP n := rfl
  have e3 : levelP (eraseN n) = levelP n := rfl
  have e4 : textP (eraseN n) = textP n := rfl
  have e5 : placesP (eraseN n) = true := rfl
  unfold fieldsP at h ⊢
  rw [e1, e2, e3, e4, e5]
  simp only [Bool.and_eq_true] at h ⊢
  obtain ⟨⟨⟨⟨⟨h1, h2⟩, h3⟩, h4⟩, h5⟩, h6⟩ := h
  exact ⟨⟨⟨⟨⟨h1, trivial⟩, h3⟩, h4⟩, h5⟩, h6⟩
theorem erase_get (t : List NodeP) {j : Nat} (h : j < t.length) : (t.map eraseN)[j]! = eraseN t[j]! := by
  rw [getElem!_pos _ j (by simpa using h), getElem!_pos t j h]; simp
theorem erase_pop {t : List NodeP} : ∀ {st : List (Nat × Nat)}, (∀ x ∈ st, x.1 < t.length) → popP (t.map eraseN) st = popP t st
  | [], _ => rfl
  | (p, d) :: r, h => by
    have e : (t.map eraseN)[p]!.kids = t[p]!.kids := by rw [erase_get t (h (p, d) (by simp))]; rfl
    rw [popP, popP, e, erase_pop fun x hx => h x (List.mem_cons_of_mem _ hx)]
theorem erase_step {t : List NodeP} {i : Nat} {up : List Int} {st : List (Nat × Nat)} {y : Int × List (Nat × Nat)} (hi : i < t.length) (h : RightI t i up st) (hs : stepP t i st = some y) : stepP (t.map eraseN) i st = some y := by
  have hl : ∀ x ∈ st, x.1 < t.length := fun x hx => by have := h.low x hx; omega
  have hp := rightI_pop h
  unfold stepP at hs ⊢
  rw [erase_pop hl, erase_get t hi]
  cases he : popP t st with
  | nil =>
    rw [he] at hs
    simp only at hs ⊢
    split at hs
    · rename_i hc
      rw [if_pos ⟨hc.1, fields_erase hc.2⟩]; exact hs
    · cases hs
  | cons x r =>
    obtain ⟨q, d⟩ := x
    rw [he] at hs hp
    have hq := (hp.low (q, d) (by simp)).1
    simp only at hs hq ⊢
    rw [erase_get t (by omega)]
    split at hs
    · rename_i hc
      obtain ⟨hf, hk, hh, h1, h2⟩ := hc
      rw [if_pos ⟨fields_erase hf, hk, hh, Int.le_refl _, Int.le_refl _⟩]; exact hs
    · cases hs
theorem erase_go {t : List NodeP} : ∀ {i : Nat} {y : List Int × List (Nat × Nat)}, i ≤ t.length → goT t i = some y → goT (t.map eraseN) i = some y
  | 0, y, _, h => h
  | i + 1, y, hi, h => by
    rw [goT] at h ⊢
    cases hg : goT t i with
    | none => rw [hg] at h; cases h
    | some x =>
      obtain ⟨u, s⟩ := x
      rw [hg] at h
      rw [erase_go (by omega) hg]
      simp only at h ⊢
      cases hs : stepP t i s with
      | none => rw [hs] at h; cases h
      | some z =>
        obtain ⟨p, s'⟩ := z
        rw [hs] at h
        rw [erase_step (by omega) (rightI_go hg) hs]
        exact h
theorem erase_right {t : List NodeP} {up : List Int} (h : parentsP t = some up) : parentsP (t.map eraseN) = some up := by
  unfold parentsP at h ⊢
  split at h
  · rename_i hc
    rw [if_pos ⟨by simpa using hc.1, by rw [erase_get t hc.1]; exact hc.2⟩]
    cases hg : goT t t.length with
    | none => rw [hg] at h; cases h
    | some x =>
      obtain ⟨u, st⟩ := x
      rw [hg] at h
      have hi := rightI_go hg
      rw [List.length_map, erase_go (Nat.le_refl _) hg]
      simp only at h ⊢
      have e : doneP (t.map eraseN) st = doneP t st := by
        unfold doneP
        rw [Bool.eq_iff_iff, List.all_eq_true, List.all_eq_true]
        have hk : ∀ x ∈ st, (t.map eraseN)[x.1]!.kids = t[x.1]!.kids := fun x hx => by rw [erase_get t (hi.low x hx).1]; rfl
        exact ⟨fun h x hx => by rw [← hk x hx]; exact h x hx, fun h x hx => by rw [hk x hx]; exact h x hx⟩
      rw [e]; exact h
  · cases h
end Go.Proofs.YtlebikmiophghaaDoor
