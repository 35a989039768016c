/-
  Laws of folded labels: folded twice; two with a blank between; cleaned. Conditions: none.
-/
import Derived.Test.YtkomodicpfbkhaaDoorFoldP
namespace Go.Proofs.YtkomodicpfbkhaaDoor
open Go.Lib

/-- A character is decoded alike where a byte below 128 stands behind the text. -/
theorem decodeL_ascii (l : List UInt8) (h : l ≠ []) (c : UInt8) (hc : c.toNat < 128) (t : List UInt8) : decodeL (l ++ c :: t) = decodeL l := by
  rw [decodeL_N, decodeL_N]
  match l, h with
  | [a], _ =>
    simp only [List.cons_append, List.nil_append, List.getD_cons_zero, List.getD_cons_succ, List.length_cons, List.length_nil, List.getD_nil]
    unfold decodeN
    have : c.toNat / 64 ≠ 2 := by omega
    simp [this]
  | [a, b], _ =>
    simp only [List.cons_append, List.nil_append, List.getD_cons_zero, List.getD_cons_succ, List.length_cons, List.length_nil, List.getD_nil]
    unfold decodeN
    have : c.toNat / 64 ≠ 2 := by omega
    simp [this]
  | [a, b, d], _ =>
    simp only [List.cons_append, List.nil_append, List.getD_cons_zero, List.getD_cons_succ, List.length_cons, List.length_nil, List.getD_nil]
    unfold decodeN
    have : c.toNat / 64 ≠ 2 := by omega
    simp [this]
  | a :: b :: d :: e :: r, _ =>
    simp only [List.cons_append, List.getD_cons_zero, List.getD_cons_succ, List.length_cons, List.length_append]
    unfold decodeN
    have e1 : ∀ k : Nat, (1 < k + 1 + 1 + 1 + 1) = True := fun k => eq_true (by omega)
    have e2 : ∀ k : Nat, (2 < k + 1 + 1 + 1 + 1) = True := fun k => eq_true (by omega)
    have e3 : ∀ k : Nat, (3 < k + 1 + 1 + 1 + 1) = True := fun k => eq_true (by omega)
    simp only [e1, e2, e3]

theorem decodeL_one (c : UInt8) (hc : c.toNat < 128) (t : List UInt8) : decodeL (c :: t) = (c.toNat, 1) := by
  rw [decodeL_N]
  simp only [List.getD_cons_zero]
  unfold decodeN
  rw [if_pos hc]

theorem charsL_one (c : UInt8) (hc : c.toNat < 128) (t : List UInt8) : charsL (c :: t) = (c.toNat : Int) :: charsL t := by
  rw [charsL_step _ (by simp), decodeL_one c hc]
  rfl
theorem charsL_ascii (c : UInt8) (hc : c.toNat < 128) (t l : List UInt8) : charsL (l ++ c :: t) = charsL l ++ (c.toNat : Int) :: charsL t := by
  generalize hn : l.length = n
  induction n using Nat.strongRecOn generalizing l with
  | ind n ih =>
    by_cases h : l = []
    · subst h; rw [charsL_nil, List.nil_append, List.nil_append, charsL_one c hc]
    · have hw := decodeL_width l
      have hle := decodeL_le l h
      have := List.length_pos_iff.2 h
      rw [charsL_step _ (by simp), decodeL_ascii l h c hc, charsL_step l h, List.drop_append_of_le_length hle, ih _ (by rw [List.length_drop]; omega) _ rfl, List.cons_append]

theorem foldGo_isRune (g ne : Bool) (cs : List Int) (hr : ∀ c ∈ cs, IsRune c) : ∀ x ∈ foldGo g ne cs, IsRune x := by
  induction cs generalizing g ne with
  | nil => intro x hx; cases hx
  | cons c cs ih =>
    have hr2 : ∀ c ∈ cs, IsRune c := fun x hx => hr x (List.mem_cons_of_mem _ hx)
    intro x hx
    cases h : blankB c
    · rw [foldGo_char _ _ _ _ h] at hx
      rcases List.mem_append.1 hx with hx | hx
      · split at hx
        · simp only [List.mem_cons, List.mem_nil_iff, or_false] at hx
          subst hx; unfold IsRune; omega
        · cases hx
      · rcases List.mem_append.1 hx with hx | hx
        · exact foldZ_isRune c (hr c List.mem_cons_self) x hx
        · exact ih _ _ hr2 x hx
    · rw [foldGo_blank _ _ _ _ h] at hx
      exact ih _ _ hr2 x hx

theorem charsL_foldS (l : List UInt8) : charsL (foldS l) = foldGo false false (charsL l) :=
  charsL_encode _ (foldGo_isRune _ _ _ (charsL_isRune l))

theorem tame_id : Tame (fun x => x) := ⟨rfl, fun _ h1 h2 => ⟨h1, h2⟩⟩
theorem tame_clean : Tame cleanF := by
  refine ⟨by decide, fun x h1 h2 => ?_⟩
  unfold cleanF
  split
  · exact ⟨by decide, by decide⟩
  · exact ⟨h1, h2⟩

/-- A folded label folds to itself. -/
theorem foldS_twice (l : List UInt8) : foldS (foldS l) = foldS l := by
  have h := foldGo_again _ tame_id false false (charsL l) (charsL_isRune l)
  rw [List.map_id'] at h
  show (foldGo false false (charsL (foldS l))).flatMap encodeRune = _
  rw [charsL_foldS, h]
  rfl

theorem cleanL_encode (cs : List Int) (h : ∀ x ∈ cs, IsRune x) : cleanL (cs.flatMap encodeRune) = (cs.map cleanF).flatMap encodeRune := by
  induction cs with
  | nil => rfl
  | cons c cs ih =>
    have hc := h c List.mem_cons_self
    have e : (c :: cs).flatMap encodeRune = encodeRune c ++ cs.flatMap encodeRune := rfl
    have e2 : cleanL (encodeRune c ++ cs.flatMap encodeRune) = encodeRune (cleanF c) ++ cleanL (cs.flatMap encodeRune) := by
      show mapD cleanF _ = _
      rw [mapD_encode cleanF c hc, if_pos (isRune_nonneg (cleanF_isRune _ hc))]
      rfl
    rw [e, e2, ih fun x hx => h x (List.mem_cons_of_mem _ hx)]
    rfl

/-- A folded label, cleaned, folds to itself. -/
theorem foldS_clean (l : List UInt8) : foldS (cleanL (foldS l)) = cleanL (foldS l) := by
  have hi := foldGo_isRune false false (charsL l) (charsL_isRune l)
  have e : cleanL (foldS l) = ((foldGo false false (charsL l)).map cleanF).flatMap encodeRune := cleanL_encode _ hi
  have h := foldGo_again _ tame_clean false false (charsL l) (charsL_isRune l)
  rw [e]
  show (foldGo false false (charsL _)).flatMap encodeRune = _
  rw [charsL_encode _ (fun x hx => by obtain ⟨y, hy, rfl⟩ := List.mem_map.1 hx; exact cleanF_isRune y (hi y hy)), h]

theorem foldS_len (l : List UInt8) : (foldS l).length ≤ 9 * l.length := by
  have key : ∀ (n : Nat) (l : List UInt8) (g ne : Bool), l.length = n → ((foldGo g ne (charsL l)).flatMap encodeRune).length ≤ 9 * n := by
    intro n
    induction n using Nat.strongRecOn with
    | ind n ih =>
      intro l g ne hn
      by_cases h : l = []
      · subst h; rw [charsL_nil]; simp [foldGo]
      · have hw := decodeL_width l
        have hp := List.length_pos_iff.2 h
        rw [charsL_step l h]
        generalize hr : ((decodeL l).1 : Int) = r
        have k := fun g ne => ih (l.length - (decodeL l).2) (by omega) (l.drop (decodeL l).2) g ne (by rw [List.length_drop])
        cases hb : blankB r
        · rw [foldGo_char _ _ _ _ hb]
          have h8 : ((foldZ r).flatMap encodeRune).length ≤ 8 := foldB_le r
          have := k false true
          simp only [List.flatMap_append, List.length_append]
          split
          · have : ([32] : List Int).flatMap encodeRune = [32] := by decide
            rw [this]
            simp only [List.length_cons, List.length_nil]
            omega
          · simp only [List.flatMap_nil, List.length_nil]
            omega
        · rw [foldGo_blank _ _ _ _ hb]
          have := k true ne
          omega
  exact key _ l false false rfl

theorem foldGo_ends (g ne : Bool) (b : Int) (hb : blankB b = true) (cs : List Int) : foldGo g ne (b :: cs) = foldGo true ne cs := foldGo_blank _ _ _ _ hb

/-- More blanks make no difference. -/
theorem foldS_more (a b : List UInt8) : foldS (10 :: 32 :: (a ++ 9 :: 32 :: 13 :: 10 :: (b ++ [32]))) = foldS (a ++ 32 :: b) := by
  have e1 : charsL (10 :: 32 :: (a ++ 9 :: 32 :: 13 :: 10 :: (b ++ [32]))) = 10 :: 32 :: (charsL a ++ 9 :: 32 :: 13 :: 10 :: (charsL b ++ [32])) := by
    rw [charsL_one 10 (by decide), charsL_one 32 (by decide), charsL_ascii 9 (by decide), charsL_one 32 (by decide), charsL_one 13 (by decide), charsL_one 10 (by decide), charsL_ascii 32 (by decide), charsL_nil]
    rfl
  have e2 : charsL (a ++ 32 :: b) = charsL a ++ 32 :: charsL b := charsL_ascii 32 (by decide) _ _
  unfold foldS
  rw [e1, e2]
  congr 1
  rw [foldGo_blank _ _ 10 _ (by decide), foldGo_blank _ _ 32 _ (by decide), foldGo_none true false, foldGo_two _ _ 9 (by decide), foldGo_two _ _ 32 (by decide)]
  congr 1
  rw [foldGo_blank _ _ 32 _ (by decide), foldGo_blank _ _ 13 _ (by decide), foldGo_blank _ _ 10 _ (by decide), foldGo_tail _ _ 32 (by decide)]

theorem encode_nil (cs : List Int) : cs.flatMap encodeRune = [] ↔ cs = [] := by
  cases cs with
  | nil => simp
  | cons c cs => simp [encodeRune_ne]

/-- Two labels with a blank between. -/
theorem foldS_parts (a b : List UInt8) : foldS (a ++ 10 :: b) = if foldS a = [] ∨ foldS b = [] then foldS a ++ foldS b else foldS a ++ 32 :: foldS b := by
  have e2 : charsL (a ++ 10 :: b) = charsL a ++ 10 :: charsL b := charsL_ascii 10 (by decide) _ _
  have q : ∀ l, foldS l = [] ↔ foldGo false false (charsL l) = [] := fun l => encode_nil _
  simp only [q]
  unfold foldS
  rw [e2, foldGo_two _ _ 10 (by decide), List.flatMap_append]
  by_cases ha : foldGo false false (charsL a) = []
  · rw [if_pos (Or.inl ha), ha]
    have hn := (foldGo_empty _ _ _).1 ha
    have : decide (∃ c ∈ charsL a, blankB c = false) = false := by
      rw [decide_eq_false_iff_not]
      rintro ⟨c, hc, hb⟩
      rw [hn c hc] at hb; cases hb
    rw [this, Bool.false_or, foldGo_none true false]
  · have : decide (∃ c ∈ charsL a, blankB c = false) = true := by
      rw [decide_eq_true_eq]
      refine Classical.byContradiction fun hno => ha ((foldGo_empty _ _ _).2 fun c hc => ?_)
      cases hb : blankB c
      · exact absurd ⟨c, hc, hb⟩ hno
      · rfl
    rw [this, Bool.false_or, foldGo_gap]
    by_cases hb : foldGo false false (charsL b) = []
    · rw [if_pos hb, if_pos (Or.inr hb), hb]
    · rw [if_neg hb, if_neg (by rintro (h | h) <;> contradiction)]
      have : (32 :: foldGo false false (charsL b)).flatMap encodeRune = 32 :: (foldGo false false (charsL b)).flatMap encodeRune := by
        simp [show encodeRune 32 = [32] from by decide]
      rw [this]
end Go.Proofs.YtkomodicpfbkhaaDoor
