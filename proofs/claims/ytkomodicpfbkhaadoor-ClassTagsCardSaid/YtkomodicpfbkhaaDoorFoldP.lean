/-
  A label folded, as a plain function; its laws. Conditions: none.
-/
import Derived.Test.YtkomodicpfbkhaaDoorFold
namespace Go.Proofs.YtkomodicpfbkhaaDoor
open Go.Lib

/-- A text's characters. -/
def charsL (l : List UInt8) : List Int :=
  if h : l = [] then [] else ((decodeL l).1 : Int) :: charsL (l.drop (decodeL l).2)
termination_by l.length
decreasing_by
  have := decodeL_width l
  have := List.length_pos_iff.2 h
  rw [List.length_drop]; omega
theorem charsL_nil : charsL [] = [] := by rw [charsL]; simp
theorem charsL_step (l : List UInt8) (h : l ≠ []) : charsL l = ((decodeL l).1 : Int) :: charsL (l.drop (decodeL l).2) := by
  rw [charsL, dif_neg h]
theorem charsL_isRune (l : List UInt8) : ∀ x ∈ charsL l, IsRune x := by
  generalize hn : l.length = n
  induction n using Nat.strongRecOn generalizing l with
  | ind n ih =>
    by_cases h : l = []
    · subst h; rw [charsL_nil]; intro x hx; cases hx
    · have := decodeL_width l
      have := List.length_pos_iff.2 h
      rw [charsL_step l h]
      intro x hx
      rcases List.mem_cons.1 hx with rfl | hx
      · exact decodeL_isRune l
      · exact ih _ (by rw [List.length_drop]; omega) _ rfl x hx
/-- What is written is read again. -/
theorem charsL_encode (cs : List Int) (h : ∀ x ∈ cs, IsRune x) : charsL (cs.flatMap encodeRune) = cs := by
  induction cs with
  | nil => exact charsL_nil
  | cons c cs ih =>
    have hc := h c (List.mem_cons_self)
    have e : (c :: cs).flatMap encodeRune = encodeRune c ++ cs.flatMap encodeRune := rfl
    rw [e, charsL_step _ (by simp [encodeRune_ne]), decode_encode c hc, List.drop_left, ih fun x hx => h x (List.mem_cons_of_mem _ hx)]
    have : ((c.toNat : Nat) : Int) = c := by unfold IsRune at hc; omega
    rw [this]

/-- The folded characters: 'gap': a blank stood ahead; 'ne': something has been written. -/
def foldGo (gap ne : Bool) : List Int → List Int
  | [] => []
  | c :: cs => if blankB c then foldGo true ne cs else (if gap && ne then [32] else []) ++ (foldZ c ++ foldGo false true cs)
def foldS (l : List UInt8) : List UInt8 := (foldGo false false (charsL l)).flatMap encodeRune

theorem foldGo_blank (gap ne : Bool) (c : Int) (cs : List Int) (h : blankB c = true) : foldGo gap ne (c :: cs) = foldGo true ne cs := by
  simp only [foldGo, h, if_true]
theorem foldGo_char (gap ne : Bool) (c : Int) (cs : List Int) (h : blankB c = false) : foldGo gap ne (c :: cs) = (if gap && ne then [32] else []) ++ (foldZ c ++ foldGo false true cs) := by
  simp only [foldGo, h, Bool.false_eq_true, if_false]
/-- Where nothing has been written, a gap makes no difference. -/
theorem foldGo_none (g g' : Bool) : ∀ cs : List Int, foldGo g false cs = foldGo g' false cs
  | [] => rfl
  | c :: cs => by
    cases h : blankB c
    · rw [foldGo_char _ _ _ _ h, foldGo_char _ _ _ _ h]; simp
    · rw [foldGo_blank _ _ _ _ h, foldGo_blank _ _ _ _ h]
theorem blank32 : blankB 32 = true := by decide
theorem foldGo_tail (g ne : Bool) (b : Int) (hb : blankB b = true) : ∀ cs : List Int, foldGo g ne (cs ++ [b]) = foldGo g ne cs := by
  intro cs
  induction cs generalizing g ne with
  | nil => rw [List.nil_append, foldGo_blank _ _ _ _ hb]; rfl
  | cons c cs ih =>
    cases h : blankB c
    · rw [List.cons_append, foldGo_char _ _ _ _ h, foldGo_char _ _ _ _ h, ih]
    · rw [List.cons_append, foldGo_blank _ _ _ _ h, foldGo_blank _ _ _ _ h, ih]
/-- Two labels with blanks between. -/
theorem foldGo_two (g ne : Bool) (b : Int) (hb : blankB b = true) (ds : List Int) : ∀ cs : List Int, foldGo g ne (cs ++ b :: ds) = foldGo g ne cs ++ foldGo true (ne || decide (∃ c ∈ cs, blankB c = false)) ds := by
  intro cs
  induction cs generalizing g ne with
  | nil => rw [List.nil_append, foldGo_blank _ _ _ _ hb]; simp [foldGo]
  | cons c cs ih =>
    cases h : blankB c
    · rw [List.cons_append, foldGo_char _ _ _ _ h, foldGo_char _ _ _ _ h, ih]
      simp [h]
    · rw [List.cons_append, foldGo_blank _ _ _ _ h, foldGo_blank _ _ _ _ h, ih]
      simp [h]
theorem foldZ_ne (c : Int) : foldZ c ≠ [] := by
  unfold foldZ
  repeat' split
  all_goals simp
theorem foldGo_empty (g ne : Bool) : ∀ cs : List Int, foldGo g ne cs = [] ↔ ∀ c ∈ cs, blankB c = true
  | [] => by simp [foldGo]
  | c :: cs => by
    cases h : blankB c
    · rw [foldGo_char _ _ _ _ h]; simp [foldZ_ne, h]
    · rw [foldGo_blank _ _ _ _ h, foldGo_empty true ne cs]; simp [h]
theorem foldGo_gap (cs : List Int) : foldGo true true cs = if foldGo false false cs = [] then [] else 32 :: foldGo false false cs := by
  induction cs with
  | nil => simp [foldGo]
  | cons c cs ih =>
    cases h : blankB c
    · rw [foldGo_char _ _ _ _ h, foldGo_char _ _ _ _ h]; simp [foldZ_ne]
    · rw [foldGo_blank _ _ _ _ h, foldGo_blank _ _ _ _ h, ih, foldGo_none true false]

/-- What a character that is no blank is folded to: no blank, and folded to itself. -/
theorem foldZ_fixed (c : Int) (hr : IsRune c) (hb : blankB c = false) : ∀ x ∈ foldZ c, blankB x = false ∧ foldZ x = [x] := by
  have nb : ∀ x : Int, blankB x = false ↔ ¬ (x = 9 ∨ x = 10 ∨ x = 12 ∨ x = 13 ∨ x = 32 ∨ x = 160 ∨ x = 5760 ∨ (8192 ≤ x ∧ x ≤ 8202) ∨ x = 8239 ∨ x = 8287 ∨ x = 12288) := by
    intro x
    rw [Bool.eq_false_iff]
    simp [blankB, inSpans, blanks]
    omega
  have fx : ∀ x : Int, ¬ ((65 ≤ x ∧ x ≤ 90) ∨ (192 ≤ x ∧ x ≤ 222 ∧ x ≠ 215) ∨ (913 ≤ x ∧ x ≤ 939 ∧ x ≠ 930) ∨ (1024 ≤ x ∧ x ≤ 1071) ∨ x = 223 ∨ x = 7838) → foldZ x = [x] := by
    intro x hx
    unfold foldZ
    split
    · rfl
    · rename_i h1
      rw [if_neg (by simp [inSpans, ups]; omega), if_neg (by simp [inSpans, ups2]; omega), if_neg (by omega)]
  intro x hx
  rw [nb] at hb
  unfold foldZ at hx
  split at hx
  · rename_i h1
    simp only [List.mem_cons, List.mem_nil_iff, or_false] at hx
    subst hx
    exact ⟨(nb _).2 hb, fx _ (by omega)⟩
  · rename_i h1
    split at hx
    · rename_i h2
      simp only [List.mem_cons, List.mem_nil_iff, or_false] at hx
      subst hx
      simp [inSpans, ups] at h2
      exact ⟨(nb _).2 (by omega), fx _ (by omega)⟩
    · rename_i h2
      simp [inSpans, ups] at h2
      split at hx
      · rename_i h3
        simp only [List.mem_cons, List.mem_nil_iff, or_false] at hx
        subst hx
        simp [inSpans, ups2] at h3
        exact ⟨(nb _).2 (by omega), fx _ (by omega)⟩
      · rename_i h3
        simp [inSpans, ups2] at h3
        split at hx
        · simp only [List.mem_cons, List.mem_nil_iff, or_false, or_self] at hx
          subst hx
          exact ⟨(nb _).2 (by omega), fx _ (by omega)⟩
        · simp only [List.mem_cons, List.mem_nil_iff, or_false] at hx
          subst hx
          exact ⟨(nb _).2 hb, fx _ (by omega)⟩

/-- A row of characters, none a blank and each folded to itself, ahead of others. -/
theorem foldGo_fixed (xs ys : List Int) (hx : ∀ x ∈ xs, blankB x = false ∧ foldZ x = [x]) : foldGo false true (xs ++ ys) = xs ++ foldGo false true ys := by
  induction xs with
  | nil => rfl
  | cons x xs ih =>
    obtain ⟨h1, h2⟩ := hx x List.mem_cons_self
    rw [List.cons_append, foldGo_char _ _ _ _ h1, h2, ih fun y hy => hx y (List.mem_cons_of_mem _ hy)]
    simp

/-- A function on characters that leaves blanks and what is folded. -/
structure Tame (G : Int → Int) : Prop where
  blank : G 32 = 32
  char : ∀ x, blankB x = false → foldZ x = [x] → blankB (G x) = false ∧ foldZ (G x) = [G x]

/-- Folded again, each character turned tamely: the same. -/
theorem foldGo_again (G : Int → Int) (hG : Tame G) (g ne : Bool) (cs : List Int) (hr : ∀ c ∈ cs, IsRune c) : foldGo false ne ((foldGo g ne cs).map G) = (foldGo g ne cs).map G := by
  induction cs generalizing g ne with
  | nil => rfl
  | cons c cs ih =>
    have hr2 : ∀ c ∈ cs, IsRune c := fun x hx => hr x (List.mem_cons_of_mem _ hx)
    cases h : blankB c
    · have hf := foldZ_fixed c (hr c List.mem_cons_self) h
      rw [foldGo_char _ _ _ _ h]
      obtain ⟨x, xs, hxs⟩ : ∃ x xs, foldZ c = x :: xs := List.exists_cons_of_ne_nil (foldZ_ne c)
      rw [hxs] at hf ⊢
      obtain ⟨h1, h2⟩ := hf x List.mem_cons_self
      obtain ⟨h3, h4⟩ := hG.char x h1 h2
      have hrest : ∀ y ∈ xs.map G, blankB y = false ∧ foldZ y = [y] := by
        intro y hy
        obtain ⟨z, hz, rfl⟩ := List.mem_map.1 hy
        obtain ⟨k1, k2⟩ := hf z (List.mem_cons_of_mem _ hz)
        exact hG.char z k1 k2
      have tail : foldGo false true (xs.map G ++ (foldGo false true cs).map G) = xs.map G ++ (foldGo false true cs).map G := by
        rw [foldGo_fixed _ _ hrest, ih false true hr2]
      cases hg : (g && ne)
      · simp only [Bool.false_eq_true, if_false, List.nil_append, List.cons_append, List.map_cons, List.map_append]
        rw [foldGo_char _ _ _ _ h3, h4, tail]; simp
      · have hne : ne = true := by cases ne <;> simp_all
        subst hne
        simp only [if_true, List.cons_append, List.nil_append, List.map_cons, List.map_append, hG.blank]
        rw [foldGo_blank _ _ _ _ blank32, foldGo_char _ _ _ _ h3, h4, tail]; simp
    · rw [foldGo_blank _ _ _ _ h]
      exact ih true ne hr2
end Go.Proofs.YtkomodicpfbkhaaDoor
