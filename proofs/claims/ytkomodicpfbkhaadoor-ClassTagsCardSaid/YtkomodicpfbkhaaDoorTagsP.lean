/-
  Block tags, as a plain list; what a search for one in the row of all finds. Conditions: none.
-/
import Derived.Test.YtkomodicpfbkhaaDoorFoldF
import Derived.Lib.IndexMore
namespace Go.Proofs.YtkomodicpfbkhaaDoor
open Go.Lib

def tagsW : List (List UInt8) := [[97, 100, 100, 114, 101, 115, 115],
  [97, 114, 116, 105, 99, 108, 101],
  [97, 115, 105, 100, 101],
  [98, 108, 111, 99, 107, 113, 117, 111, 116, 101],
  [98, 111, 100, 121],
  [99, 101, 110, 116, 101, 114],
  [99, 111, 108],
  [100, 100],
  [100, 101, 116, 97, 105, 108, 115],
  [100, 105, 97, 108, 111, 103],
  [100, 105, 114],
  [100, 105, 118],
  [100, 108],
  [100, 116],
  [102, 105, 101, 108, 100, 115, 101, 116],
  [102, 105, 103, 117, 114, 101],
  [102, 111, 111, 116, 101, 114],
  [102, 111, 114, 109],
  [102, 114, 97, 109, 101],
  [104, 49],
  [104, 50],
  [104, 51],
  [104, 52],
  [104, 53],
  [104, 54],
  [104, 101, 97, 100],
  [104, 101, 97, 100, 101, 114],
  [104, 114],
  [104, 116, 109, 108],
  [105, 102, 114, 97, 109, 101],
  [108, 101, 103, 101, 110, 100],
  [108, 105],
  [108, 105, 110, 107],
  [109, 97, 105, 110],
  [109, 101, 110, 117],
  [110, 97, 118],
  [111, 108],
  [111, 112, 116, 105, 111, 110],
  [112],
  [112, 97, 114, 97, 109],
  [115, 101, 99, 116, 105, 111, 110],
  [115, 117, 109, 109, 97, 114, 121],
  [116, 97, 98, 108, 101],
  [116, 98, 111, 100, 121],
  [116, 100],
  [116, 102, 111, 111, 116],
  [116, 104],
  [116, 104, 101, 97, 100],
  [116, 105, 116, 108, 101],
  [116, 114],
  [116, 114, 97, 99, 107],
  [117, 108]]
def tagsL : List UInt8 := 32 :: tagsW.flatMap (fun w => w ++ [32])
def lowB (b : UInt8) : UInt8 := if 65 ≤ b.toNat ∧ b.toNat ≤ 90 then b + 32 else b
def lowF (r : Int) : Int := if 65 ≤ r ∧ r ≤ 90 then r + 32 else r
/-- Is a text a block tag? -/
def isTag (l : List UInt8) : Bool := decide (l.map lowB ∈ tagsW)

theorem tags_good : (tagsW.all fun w => !w.isEmpty && w.all (fun b => b != 32 && decide (b.toNat < 128)) && decide (w.length < 20)) = true := by decide +kernel
theorem tagsL_low : (tagsL.all fun b => decide (b.toNat < 128)) = true := by decide +kernel
theorem tagsW_len : tagsW.length = 52 := by decide
theorem tag_facts (w : List UInt8) (h : w ∈ tagsW) : w ≠ [] ∧ (∀ b ∈ w, b ≠ 32 ∧ b.toNat < 128) ∧ w.length < 20 := by
  have := List.all_eq_true.1 tags_good w h
  simp only [Bool.and_eq_true, Bool.not_eq_true', decide_eq_true_eq, List.all_eq_true, bne_iff_ne] at this
  obtain ⟨⟨h1, h2⟩, h3⟩ := this
  exact ⟨by intro hc; rw [hc] at h1; simp at h1, fun b hb => h2 b hb, h3⟩

theorem lowB_32 (b : UInt8) (h : lowB b = 32) : b = 32 := by
  unfold lowB at h
  split at h
  · rename_i hc
    have h2 := congrArg UInt8.toNat h
    rw [UInt8.toNat_add] at h2
    have e1 : (32 : UInt8).toNat = 32 := rfl
    rw [e1] at h2
    omega
  · exact h
theorem lowB_nat (b : UInt8) : (lowB b).toNat = if 65 ≤ b.toNat ∧ b.toNat ≤ 90 then b.toNat + 32 else b.toNat := by
  unfold lowB
  split
  · rename_i hc
    rw [UInt8.toNat_add]
    have e1 : (32 : UInt8).toNat = 32 := rfl
    rw [e1]; omega
  · rfl

/-- Two texts without a byte 32, each with one behind. -/
theorem pad_prefix (r t : List UInt8) : ∀ x w : List UInt8, (∀ b ∈ x, b ≠ 32) → (∀ b ∈ w, b ≠ 32) → x ++ 32 :: r <+: w ++ 32 :: t → x = w
  | [], [], _, _, _ => rfl
  | [], b :: w, _, h2, h => by
    obtain ⟨y, hy⟩ := h
    simp only [List.nil_append, List.cons_append, List.cons.injEq] at hy
    exact absurd hy.1.symm (h2 b List.mem_cons_self)
  | a :: x, [], h1, _, h => by
    obtain ⟨y, hy⟩ := h
    simp only [List.nil_append, List.cons_append, List.cons.injEq] at hy
    exact absurd hy.1 (h1 a List.mem_cons_self)
  | a :: x, b :: w, h1, h2, h => by
    obtain ⟨y, hy⟩ := h
    simp only [List.cons_append, List.cons.injEq] at hy
    rw [hy.1, pad_prefix r t x w (fun c hc => h1 c (List.mem_cons_of_mem _ hc)) (fun c hc => h2 c (List.mem_cons_of_mem _ hc)) ⟨y, hy.2⟩]
theorem skip_word (s u : List UInt8) : ∀ w : List UInt8, (∀ b ∈ w, b ≠ 32) → (32 :: s <:+: w ++ u) → 32 :: s <:+: u
  | [], _, h => h
  | b :: w, hw, h => by
    rcases List.infix_cons_iff.1 h with h | h
    · obtain ⟨y, hy⟩ := h
      simp only [List.cons_append, List.cons.injEq] at hy
      exact absurd hy.1.symm (hw b List.mem_cons_self)
    · exact skip_word s u w (fun c hc => hw c (List.mem_cons_of_mem _ hc)) h
theorem infix_pads (x : List UInt8) (hx : ∀ b ∈ x, b ≠ 32) (hne : x ≠ []) : ∀ ws : List (List UInt8), (∀ w ∈ ws, ∀ b ∈ w, b ≠ 32) → (32 :: (x ++ [32]) <:+: 32 :: ws.flatMap (fun w => w ++ [32]) ↔ x ∈ ws)
  | [], _ => by
    constructor
    · intro h
      have := h.length_le
      simp at this
    · intro h; cases h
  | w :: ws, hws => by
    have hw := hws w List.mem_cons_self
    have ih := infix_pads x hx hne ws (fun v hv => hws v (List.mem_cons_of_mem _ hv))
    have e : (w :: ws).flatMap (fun w => w ++ [32]) = w ++ 32 :: ws.flatMap (fun w => w ++ [32]) := by simp
    rw [e]
    constructor
    · intro h
      rcases List.infix_cons_iff.1 h with h | h
      · obtain ⟨y, hy⟩ := h
        simp only [List.cons_append, List.append_assoc, List.nil_append, List.cons.injEq, true_and] at hy
        rw [pad_prefix _ _ x w hx hw ⟨[], by simpa using hy⟩]
        exact List.mem_cons_self
      · exact List.mem_cons_of_mem _ (ih.1 (skip_word _ _ w hw h))
    · intro h
      rcases List.mem_cons.1 h with rfl | h
      · exact ⟨[], ws.flatMap (fun w => w ++ [32]), by simp⟩
      · obtain ⟨a, b, hab⟩ := ih.2 h
        refine ⟨32 :: w ++ a, b, ?_⟩
        rw [← hab]; simp

theorem contains_infix (s sub : List UInt8) : contains s sub = true ↔ sub <:+: s := by
  unfold contains
  rw [decide_eq_true_eq]
  rcases index_spec s sub with ⟨h1, h2⟩ | ⟨i, h1, h2, h3, _⟩
  · constructor
    · intro h; omega
    · rintro ⟨a, b, hab⟩
      have := h2 a.length (by rw [← hab]; simp)
      unfold occAt at this
      rw [← hab, List.append_assoc, List.drop_left] at this
      have hp : sub.isPrefixOf (sub ++ b) = true := List.isPrefixOf_iff_prefix.2 ⟨b, rfl⟩
      rw [hp] at this; cases this
  · constructor
    · intro _
      unfold occAt at h3
      obtain ⟨b, hb⟩ := List.isPrefixOf_iff_prefix.1 h3
      refine ⟨s.take i, b, ?_⟩
      rw [List.append_assoc, hb, List.take_append_drop]
    · intro _; omega

theorem encodeRune_low (b : UInt8) (h : b.toNat < 128) : encodeRune (lowF b.toNat) = [lowB b] := by
  have hl : lowF b.toNat = ((lowB b).toNat : Int) := by
    rw [lowB_nat]; unfold lowF
    split
    · rw [if_pos (by omega)]; omega
    · rw [if_neg (by omega)]
  rw [hl]
  have h128 : (lowB b).toNat < 128 := by rw [lowB_nat]; split <;> omega
  unfold encodeRune
  rw [encodeRuneZ_one (by omega) (by omega)]
  simp
theorem mapD_ascii : ∀ l : List UInt8, (∀ b ∈ l, b.toNat < 128) → mapD lowF l = l.map lowB
  | [], _ => mapD_nil _
  | b :: l, h => by
    have hb := h b List.mem_cons_self
    rw [mapD_step lowF _ (by simp), decodeL_one b hb]
    have h0 : 0 ≤ lowF (b.toNat : Int) := by unfold lowF; split <;> omega
    rw [if_pos h0, encodeRune_low b hb]
    show [lowB b] ++ mapD lowF l = _
    rw [mapD_ascii l fun c hc => h c (List.mem_cons_of_mem _ hc)]
    rfl
theorem decodeL_high (b : UInt8) (t : List UInt8) (h : 128 ≤ b.toNat) : 128 ≤ (decodeL (b :: t)).1 := by
  rw [decodeL_N]
  simp only [List.getD_cons_zero]
  rcases decodeN_shape (b :: t).length b.toNat ((b :: t).getD 1 0).toNat ((b :: t).getD 2 0).toNat ((b :: t).getD 3 0).toNat with ⟨c, e⟩ | ⟨c1, c2, c3, cv, e⟩ | ⟨c1, c2, c3, c4, cv, cs, e⟩ | ⟨c1, c2, c3, c4, c5, cv, cw, e⟩ | e
  all_goals (rw [e]; dsimp only; omega)
theorem encodeRune_high (r : Int) (hr : IsRune r) (h : 128 ≤ r) : ∃ x ∈ encodeRune r, 128 ≤ x.toNat := by
  unfold IsRune at hr
  unfold encodeRune
  by_cases h2 : r ≤ 2047
  · rw [encodeRuneZ_two h h2]
    exact ⟨_, List.mem_cons_self, by rw [toByte_nat _ (by omega) (by omega)]; omega⟩
  · by_cases h3 : r ≤ 65535
    · rw [encodeRuneZ_three (by omega)]
      exact ⟨_, List.mem_cons_self, by rw [toByte_nat _ (by omega) (by omega)]; omega⟩
    · rw [encodeRuneZ_four (by omega) (by omega)]
      exact ⟨_, List.mem_cons_self, by rw [toByte_nat _ (by omega) (by omega)]; omega⟩
theorem mapD_high (l : List UInt8) (h : ∃ b ∈ l, 128 ≤ b.toNat) : ∃ x ∈ mapD lowF l, 128 ≤ x.toNat := by
  generalize hn : l.length = n
  induction n using Nat.strongRecOn generalizing l with
  | ind n ih =>
    match l, h with
    | [], ⟨b, hb, _⟩ => cases hb
    | b :: t, ⟨c, hc, hc2⟩ =>
      rw [mapD_step lowF _ (by simp)]
      by_cases hb : b.toNat < 128
      · rw [decodeL_one b hb]
        have hct : c ∈ t := by
          rcases List.mem_cons.1 hc with rfl | h
          · omega
          · exact h
        simp only [List.length_cons] at hn
        obtain ⟨x, hx, hx2⟩ := ih t.length (by omega) t ⟨c, hct, hc2⟩ rfl
        exact ⟨x, List.mem_append_right _ hx, hx2⟩
      · have hd := decodeL_high b t (by omega)
        have hi := decodeL_isRune (b :: t)
        have hl : lowF ((decodeL (b :: t)).1 : Int) = ((decodeL (b :: t)).1 : Int) := by unfold lowF; rw [if_neg (by omega)]
        rw [hl, if_pos (by omega)]
        obtain ⟨x, hx, hx2⟩ := encodeRune_high _ hi (by omega)
        exact ⟨x, List.mem_append_left _ hx, hx2⟩

/-- What class.Block asks is whether a text is a block tag. -/
theorem block_eq (l : List UInt8) : (!l.isEmpty && !(l.contains 32) && contains tagsL (32 :: (mapD lowF l ++ [32]))) = isTag l := by
  have hW : ∀ w ∈ tagsW, ∀ b ∈ w, b ≠ 32 := fun w hw b hb => ((tag_facts w hw).2.1 b hb).1
  rw [Bool.eq_iff_iff]
  unfold isTag
  simp only [Bool.and_eq_true, Bool.not_eq_true', decide_eq_true_eq]
  rw [contains_infix]
  by_cases hl : ∀ b ∈ l, b.toNat < 128
  · rw [mapD_ascii l hl]
    have h32 : (∀ b ∈ l.map lowB, b ≠ 32) ↔ l.contains 32 = false := by
      rw [Bool.eq_false_iff]
      constructor
      · intro h hc
        have hm : (32 : UInt8) ∈ l := by simpa using hc
        exact h (lowB 32) (List.mem_map_of_mem hm) (by decide)
      · intro h b hb hc
        obtain ⟨a, ha, rfl⟩ := List.mem_map.1 hb
        have := lowB_32 a hc
        subst this
        exact h (by simpa using ha)
    constructor
    · rintro ⟨⟨h1, h2⟩, h3⟩
      exact (infix_pads _ (h32.2 h2) (by intro hc; rw [List.map_eq_nil_iff] at hc; rw [hc] at h1; simp at h1) tagsW hW).1 h3
    · intro h
      have hf := tag_facts _ h
      have hn32 : ∀ b ∈ l.map lowB, b ≠ 32 := fun b hb => (hf.2.1 b hb).1
      refine ⟨⟨?_, h32.1 hn32⟩, (infix_pads _ hn32 hf.1 tagsW hW).2 h⟩
      cases l with
      | nil => exact absurd rfl hf.1
      | cons a t => rfl
  · have hh : ∃ b ∈ l, 128 ≤ b.toNat := by
      refine Classical.byContradiction fun hc => hl fun b hb => ?_
      by_cases h : b.toNat < 128
      · exact h
      · exact absurd ⟨b, hb, by omega⟩ hc
    constructor
    · rintro ⟨_, h3⟩
      obtain ⟨x, hx, hx2⟩ := mapD_high l hh
      obtain ⟨a, b, hab⟩ := h3
      have hm : x ∈ tagsL := by rw [← hab]; simp [hx]
      have := of_decide_eq_true (List.all_eq_true.1 tagsL_low x hm)
      omega
    · intro h
      obtain ⟨b, hb, hb2⟩ := hh
      have := ((tag_facts _ h).2.1 (lowB b) (List.mem_map_of_mem hb)).2
      rw [lowB_nat] at this
      split at this <;> omega

/-- Capital letters make no difference. -/
def upB (b : UInt8) : UInt8 := if 97 ≤ b.toNat ∧ b.toNat ≤ 122 then b - 32 else b
theorem lowB_upB (b : UInt8) : lowB (upB b) = lowB b := by
  rw [← UInt8.toNat_inj, lowB_nat, lowB_nat]
  have hu : (upB b).toNat = if 97 ≤ b.toNat ∧ b.toNat ≤ 122 then b.toNat - 32 else b.toNat := by
    unfold upB
    split
    · rename_i h
      rw [UInt8.toNat_sub_of_le _ _ (by rw [UInt8.le_iff_toNat_le]; show 32 ≤ _; omega)]
      rfl
    · rfl
  rw [hu]
  repeat' split
  all_goals omega
theorem isTag_up (l : List UInt8) : isTag (l.map upB) = isTag l := by
  unfold isTag
  rw [List.map_map]
  have : (lowB ∘ upB) = lowB := funext lowB_upB
  rw [this]
theorem isTag_long (l : List UInt8) (h : 20 ≤ l.length) : isTag l = false := by
  unfold isTag
  rw [decide_eq_false_iff_not]
  intro hc
  have := (tag_facts _ hc).2.2
  rw [List.length_map] at this; omega
end Go.Proofs.YtkomodicpfbkhaaDoor
