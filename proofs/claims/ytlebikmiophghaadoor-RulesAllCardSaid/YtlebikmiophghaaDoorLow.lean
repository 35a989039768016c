/-
  Letters made small, byte by byte and by characters. Conditions: none.
-/
import Derived.Test.YtlebikmiophghaaDoorUtf
namespace Go.Proofs.YtlebikmiophghaaDoor
open Go.Lib

theorem decodeL_one (c : UInt8) (hc : c.toNat < 128) (t : List UInt8) : decodeL (c :: t) = (c.toNat, 1) := by
  rw [decodeL_N]
  simp only [List.getD_cons_zero]
  unfold decodeN
  rw [if_pos hc]
def lowB (b : UInt8) : UInt8 := if 65 ≤ b.toNat ∧ b.toNat ≤ 90 then b + 32 else b
def lowF (r : Int) : Int := if 65 ≤ r ∧ r ≤ 90 then r + 32 else r
theorem lowB_nat (b : UInt8) : (lowB b).toNat = if 65 ≤ b.toNat ∧ b.toNat ≤ 90 then b.toNat + 32 else b.toNat := by
  unfold lowB
  split
  · rename_i hc
    rw [UInt8.toNat_add]
    have e1 : (32 : UInt8).toNat = 32 := rfl
    rw [e1]; omega
  · rfl

theorem encodeRune_low (b : UInt8) (h : b.toNat < 128) : encodeRune (lowF b.toNat) = [lowB b] := by
  have hl : lowF b.toNat = ((lowB b).toNat : Int) := by
    rw [lowB_nat]; unfold lowF
    split
    · rw [if_pos (by omega)]; omega
    · rw [if_neg (by omega)]
  rw [hl]
  have h128 : (lowB b).toNat < 128 := by rw [lowB_nat]; split <;> omega
  unfold encodeRune
  rw [encodeRuneZ_one (by omega) (by omega)]
  simp
theorem mapD_ascii : ∀ l : List UInt8, (∀ b ∈ l, b.toNat < 128) → mapD lowF l = l.map lowB
  | [], _ => mapD_nil _
  | b :: l, h => by
    have hb := h b List.mem_cons_self
    rw [mapD_step lowF _ (by simp), decodeL_one b hb]
    have h0 : 0 ≤ lowF (b.toNat : Int) := by unfold lowF; split <;> omega
    rw [if_pos h0, encodeRune_low b hb]
    show [lowB b] ++ mapD lowF l = _
    rw [mapD_ascii l fun c hc => h c (List.mem_cons_of_mem _ hc)]
    rfl
theorem decodeL_high (b : UInt8) (t : List UInt8) (h : 128 ≤ b.toNat) : 128 ≤ (decodeL (b :: t)).1 := by
  rw [decodeL_N]
  simp only [List.getD_cons_zero]
  rcases decodeN_shape (b :: t).length b.toNat ((b :: t).getD 1 0).toNat ((b :: t).getD 2 0).toNat ((b :: t).getD 3 0).toNat with ⟨c, e⟩ | ⟨c1, c2, c3, cv, e⟩ | ⟨c1, c2, c3, c4, cv, cs, e⟩ | ⟨c1, c2, c3, c4, c5, cv, cw, e⟩ | e
  all_goals (rw [e]; dsimp only; omega)
theorem encodeRune_high (r : Int) (hr : IsRune r) (h : 128 ≤ r) : ∃ x ∈ encodeRune r, 128 ≤ x.toNat := by
  unfold IsRune at hr
  unfold encodeRune
  by_cases h2 : r ≤ 2047
  · rw [encodeRuneZ_two h h2]
    exact ⟨_, List.mem_cons_self, by rw [toByte_nat _ (by omega) (by omega)]; omega⟩
  · by_cases h3 : r ≤ 65535
    · rw [encodeRuneZ_three (by omega)]
      exact ⟨_, List.mem_cons_self, by rw [toByte_nat _ (by omega) (by omega)]; omega⟩
    · rw [encodeRuneZ_four (by omega) (by omega)]
      exact ⟨_, List.mem_cons_self, by rw [toByte_nat _ (by omega) (by omega)]; omega⟩
theorem mapD_high (l : List UInt8) (h : ∃ b ∈ l, 128 ≤ b.toNat) : ∃ x ∈ mapD lowF l, 128 ≤ x.toNat := by
  generalize hn : l.length = n
  induction n using Nat.strongRecOn generalizing l with
  | ind n ih =>
    match l, h with
    | [], ⟨b, hb, _⟩ => cases hb
    | b :: t, ⟨c, hc, hc2⟩ =>
      rw [mapD_step lowF _ (by simp)]
      by_cases hb : b.toNat < 128
      · rw [decodeL_one b hb]
        have hct : c ∈ t := by
          rcases List.mem_cons.1 hc with rfl | h
          · omega
          · exact h
        simp only [List.length_cons] at hn
        obtain ⟨x, hx, hx2⟩ := ih t.length (by omega) t ⟨c, hct, hc2⟩ rfl
        exact ⟨x, List.mem_append_right _ hx, hx2⟩
      · have hd := decodeL_high b t (by omega)
        have hi := decodeL_isRune (b :: t)
        have hl : lowF ((decodeL (b :: t)).1 : Int) = ((decodeL (b :: t)).1 : Int) := by unfold lowF; rw [if_neg (by omega)]
        rw [hl, if_pos (by omega)]
        obtain ⟨x, hx, hx2⟩ := encodeRune_high _ hi (by omega)
        exact ⟨x, List.mem_append_left _ hx, hx2⟩


theorem all_ascii_or (l : List UInt8) : (∀ b ∈ l, b.toNat < 128) ∨ ∃ b ∈ l, 128 ≤ b.toNat := by
  by_cases hl : ∀ b ∈ l, b.toNat < 128
  · exact .inl hl
  · refine .inr (Classical.byContradiction fun hc => hl fun b hb => ?_)
    by_cases h : b.toNat < 128
    · exact h
    · exact absurd ⟨b, hb, by omega⟩ hc
theorem map_low_high (l : List UInt8) (h : ∃ b ∈ l, 128 ≤ b.toNat) : ∃ x ∈ l.map lowB, 128 ≤ x.toNat := by
  obtain ⟨b, hb, hb2⟩ := h
  refine ⟨lowB b, List.mem_map_of_mem hb, ?_⟩
  rw [lowB_nat]; split <;> omega
theorem map_low_ascii (l : List UInt8) (h : ∀ b ∈ l, b.toNat < 128) : ∀ x ∈ l.map lowB, x.toNat < 128 := by
  intro x hx
  obtain ⟨b, hb, rfl⟩ := List.mem_map.1 hx
  have := h b hb
  rw [lowB_nat]; split <;> omega
/-- Two words are one, but for capital letters, the first one being ASCII. -/
theorem same_eq (a b : List UInt8) (ha : ∀ x ∈ a, x.toNat < 128) : (decide (a.length = b.length) && (mapD lowF a == mapD lowF b)) = (a.map lowB == b.map lowB) := by
  rw [mapD_ascii a ha]
  rcases all_ascii_or b with hb | hb
  · rw [mapD_ascii b hb, Bool.eq_iff_iff]
    simp only [Bool.and_eq_true, decide_eq_true_eq, beq_iff_eq]
    constructor
    · exact fun h => h.2
    · intro h
      have := congrArg List.length h
      simp at this
      exact ⟨this, h⟩
  · have h1 : (a.map lowB == mapD lowF b) = false := by
      rw [beq_eq_false_iff_ne]
      intro hc
      obtain ⟨x, hx, hx2⟩ := mapD_high b hb
      rw [← hc] at hx
      have := map_low_ascii a ha x hx
      omega
    have h2 : (a.map lowB == b.map lowB) = false := by
      rw [beq_eq_false_iff_ne]
      intro hc
      obtain ⟨x, hx, hx2⟩ := map_low_high b hb
      rw [← hc] at hx
      have := map_low_ascii a ha x hx
      omega
    rw [h1, h2]; simp
end Go.Proofs.YtlebikmiophghaaDoor
