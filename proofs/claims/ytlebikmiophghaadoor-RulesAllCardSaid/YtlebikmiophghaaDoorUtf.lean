/-
  Plain laws on UTF-8: what is encoded is decoded again; a text cleaned twice is cleaned once. Conditions: none.
-/
import Derived.Lib.MapLaws
namespace Go.Proofs.YtlebikmiophghaaDoor
open Go.Lib

/-- A number that is a character. -/
def IsRune (r : Int) : Prop := (0 ≤ r ∧ r < 55296) ∨ (57344 ≤ r ∧ r ≤ 1114111)

theorem decodeL_isRune (l : List UInt8) : IsRune (decodeL l).1 := by
  rw [decodeL_N]
  have k0 := (l.getD 0 0).toNat_lt
  have k1 := (l.getD 1 0).toNat_lt
  have k2 := (l.getD 2 0).toNat_lt
  have k3 := (l.getD 3 0).toNat_lt
  unfold IsRune
  rcases decodeN_shape l.length (l.getD 0 0).toNat (l.getD 1 0).toNat (l.getD 2 0).toNat (l.getD 3 0).toNat with ⟨c, e⟩ | ⟨c1, c2, c3, cv, e⟩ | ⟨c1, c2, c3, c4, cv, cs, e⟩ | ⟨c1, c2, c3, c4, c5, cv, cw, e⟩ | e
  all_goals (rw [e]; dsimp only; omega)

theorem toByte_nat (x : Int) (_h0 : 0 ≤ x) (h1 : x < 256) : (x.toNat.toUInt8).toNat = x.toNat := by
  simp [Nat.toUInt8]; omega

/-- What is encoded is decoded again. -/
theorem decode_encode (r : Int) (h : IsRune r) (t : List UInt8) : decodeL (encodeRune r ++ t) = (r.toNat, (encodeRune r).length) := by
  rw [decodeL_N]
  unfold IsRune at h
  unfold encodeRune
  by_cases h1 : r ≤ 127
  · rw [encodeRuneZ_one (by omega) h1]
    simp only [List.map_cons, List.map_nil, List.cons_append, List.nil_append, List.getD_cons_zero, List.length_cons, List.length_nil]
    unfold decodeN
    rw [toByte_nat r (by omega) (by omega), if_pos (by omega)]
  · by_cases h2 : r ≤ 2047
    · rw [encodeRuneZ_two (by omega) h2]
      simp only [List.map_cons, List.map_nil, List.cons_append, List.nil_append, List.getD_cons_zero, List.getD_cons_succ, List.length_cons, List.length_nil]
      unfold decodeN
      rw [toByte_nat (192 + r / 64) (by omega) (by omega), toByte_nat (128 + r % 64) (by omega) (by omega), if_neg (by omega), if_pos (by omega), if_pos (by omega)]
      exact Prod.ext (by dsimp only; omega) rfl
    · by_cases h3 : r ≤ 65535
      · rw [encodeRuneZ_three (by omega)]
        simp only [List.map_cons, List.map_nil, List.cons_append, List.nil_append, List.getD_cons_zero, List.getD_cons_succ, List.length_cons, List.length_nil]
        unfold decodeN
        rw [toByte_nat (224 + r / 4096) (by omega) (by omega), toByte_nat (128 + r / 64 % 64) (by omega) (by omega), toByte_nat (128 + r % 64) (by omega) (by omega), if_neg (by omega), if_neg (by omega), if_pos (by omega), if_pos (by omega)]
        exact Prod.ext (by dsimp only; omega) rfl
      · rw [encodeRuneZ_four (by omega) (by omega)]
        simp only [List.map_cons, List.map_nil, List.cons_append, List.nil_append, List.getD_cons_zero, List.getD_cons_succ, List.length_cons, List.length_nil]
        unfold decodeN
        rw [toByte_nat (240 + r / 262144) (by omega) (by omega), toByte_nat (128 + r / 4096 % 64) (by omega) (by omega), toByte_nat (128 + r / 64 % 64) (by omega) (by omega), toByte_nat (128 + r % 64) (by omega) (by omega), if_neg (by omega), if_neg (by omega), if_neg (by omega), if_pos (by omega), if_pos (by omega)]
        exact Prod.ext (by dsimp only; omega) rfl

theorem encodeRune_ne (r : Int) : encodeRune r ≠ [] := by
  unfold encodeRune encodeRuneZ
  repeat' split
  all_goals simp

/-- A map over characters goes through what was encoded as through its characters. -/
theorem mapD_encode (f : Int → Int) (r : Int) (h : IsRune r) (t : List UInt8) : mapD f (encodeRune r ++ t) = (if 0 ≤ f r then encodeRune (f r) else []) ++ mapD f t := by
  have hr : ((r.toNat : Nat) : Int) = r := by unfold IsRune at h; omega
  rw [mapD_step f _ (by simp [encodeRune_ne])]
  rw [decode_encode r h t, hr, List.drop_left]

/-- The character that stands for one in a clean text. -/
def cleanF (r : Int) : Int := if r = 0 then 65533 else r
theorem cleanF_isRune (r : Int) (h : IsRune r) : IsRune (cleanF r) := by
  unfold cleanF; split
  · unfold IsRune; omega
  · exact h
theorem cleanF_twice (r : Int) : cleanF (cleanF r) = cleanF r := by
  by_cases h : r = 0
  · subst h; rfl
  · have e : cleanF r = r := by unfold cleanF; rw [if_neg h]
    rw [e, e]
theorem isRune_nonneg {r : Int} (h : IsRune r) : 0 ≤ r := by unfold IsRune at h; omega

def cleanL (l : List UInt8) : List UInt8 := mapD cleanF l

theorem cleanL_step (l : List UInt8) (hne : l ≠ []) : cleanL l = encodeRune (cleanF (decodeL l).1) ++ cleanL (l.drop (decodeL l).2) := by
  unfold cleanL
  rw [mapD_step _ l hne, if_pos (isRune_nonneg (cleanF_isRune _ (decodeL_isRune l)))]

theorem cleanL_twice (l : List UInt8) : cleanL (cleanL l) = cleanL l := by
  generalize hn : l.length = n
  induction n using Nat.strongRecOn generalizing l with
  | ind n ih =>
    by_cases hne : l = []
    · subst hne; rfl
    · have hw := decodeL_width l
      have hl : 0 < l.length := List.length_pos_iff.2 hne
      rw [cleanL_step l hne]
      have hf := cleanF_isRune _ (decodeL_isRune l)
      have e : cleanL (encodeRune (cleanF (decodeL l).1) ++ cleanL (l.drop (decodeL l).2)) = encodeRune (cleanF (decodeL l).1) ++ cleanL (cleanL (l.drop (decodeL l).2)) := by
        show mapD cleanF _ = _
        rw [mapD_encode cleanF _ hf, cleanF_twice, if_pos (isRune_nonneg hf)]
        rfl
      rw [e, ih _ (by rw [List.length_drop]; omega) _ rfl]

theorem width_at (s : ByteArray) (pos : Nat) : 1 ≤ (Utf8.decode s pos).2 := width_pos s pos
theorem decode_drop (s : ByteArray) (pos : Nat) : Utf8.decode s pos = decodeL (s.data.toList.drop pos) := (decodeL_drop s pos).symm

theorem drop_ne (s : ByteArray) (pos : Nat) (h : pos < s.size) : s.data.toList.drop pos ≠ [] := by
  intro e
  have := congrArg List.length e
  simp at this
  have e2 : s.data.size = s.size := rfl
  omega
theorem cleanL_at (s : ByteArray) (pos : Nat) (h : pos < s.size) : cleanL (s.data.toList.drop pos) = encodeRune (cleanF (Utf8.decode s pos).1) ++ cleanL (s.data.toList.drop (pos + (Utf8.decode s pos).2)) := by
  rw [cleanL_step _ (drop_ne s pos h), ← decode_drop, List.drop_drop]

theorem encodeRune_le (r : Int) : (encodeRune r).length ≤ 4 := by
  have := runeCells_le r
  rw [runeCells_length] at this
  omega

theorem decode_end (s : ByteArray) (p : Nat) (hp : p < s.size) : p + (Utf8.decode s p).2 ≤ s.size := by
  have := decodeL_le (s.data.toList.drop p) (drop_ne s p hp)
  rw [← decode_drop] at this
  have e2 : s.data.size = s.size := rfl
  simp at this
  omega

/-- The model's encoding is encodeRune. -/
theorem encode_eq (r : Int) (hr : IsRune r) : Utf8.encode r = ⟨(encodeRune r).toArray⟩ := by
  unfold IsRune at hr
  have hv : Utf8.valid r = true := by unfold Utf8.valid; simp; omega
  obtain ⟨n, rfl⟩ : ∃ n : Nat, r = n := ⟨r.toNat, by omega⟩
  unfold Utf8.encode
  simp only [hv, if_true, Int.toNat_natCast]
  unfold encodeRune
  by_cases h1 : n < 128
  · rw [if_pos h1, encodeRuneZ_one (by omega) (by omega)]
    rfl
  · rw [if_neg h1]
    by_cases h2 : n < 2048
    · rw [if_pos h2, encodeRuneZ_two (by omega) (by omega)]
      have e1 : (192 + (n : Int) / 64).toNat = 192 + n / 64 := by omega
      have e2 : (128 + (n : Int) % 64).toNat = 128 + n % 64 := by omega
      simp only [List.map_cons, List.map_nil, e1, e2]
    · rw [if_neg h2]
      by_cases h3 : n < 65536
      · rw [if_pos h3, encodeRuneZ_three (by omega)]
        have e1 : (224 + (n : Int) / 4096).toNat = 224 + n / 4096 := by omega
        have e2 : (128 + (n : Int) / 64 % 64).toNat = 128 + n / 64 % 64 := by omega
        have e3 : (128 + (n : Int) % 64).toNat = 128 + n % 64 := by omega
        simp only [List.map_cons, List.map_nil, e1, e2, e3]
      · rw [if_neg h3, encodeRuneZ_four (by omega) (by omega)]
        have e1 : (240 + (n : Int) / 262144).toNat = 240 + n / 262144 := by omega
        have e2 : (128 + (n : Int) / 4096 % 64).toNat = 128 + n / 4096 % 64 := by omega
        have e3 : (128 + (n : Int) / 64 % 64).toNat = 128 + n / 64 % 64 := by omega
        have e4 : (128 + (n : Int) % 64).toNat = 128 + n % 64 := by omega
        simp only [List.map_cons, List.map_nil, e1, e2, e3, e4]

/-- A character's bytes, from 128 on: two, the second from 128 on; or more. -/
theorem encode_shape (r : Int) (hr : IsRune r) (h : 128 ≤ r) : (∃ a b : UInt8, Utf8.encode r = ⟨#[a, b]⟩ ∧ 128 ≤ b.toNat) ∨ (3 ≤ (Utf8.encode r).size ∧ (Utf8.encode r).size ≤ 4) := by
  rw [encode_eq r hr]
  unfold IsRune at hr
  unfold encodeRune
  by_cases h2 : r ≤ 2047
  · rw [encodeRuneZ_two h h2]
    refine Or.inl ⟨_, _, rfl, ?_⟩
    rw [toByte_nat _ (by omega) (by omega)]
    omega
  · refine Or.inr ?_
    by_cases h3 : r ≤ 65535
    · rw [encodeRuneZ_three (by omega)]
      exact ⟨Nat.le_refl 3, Nat.le_succ 3⟩
    · rw [encodeRuneZ_four (by omega) (by omega)]
      exact ⟨Nat.le_succ 3, Nat.le_refl 4⟩

/-- A byte below 128 is its own character. -/
theorem decode_low (s : ByteArray) (p : Nat) (h : (s.get! p).toNat < 128) : Utf8.decode s p = ((s.get! p).toNat, 1) := by
  rw [decode_at]; unfold decodeN; rw [if_pos h]
/-- A character from 128 on has no byte below 128. -/
theorem decode_high (s : ByteArray) (p : Nat) (h : 128 ≤ (Utf8.decode s p).1) : ∀ j, j < (Utf8.decode s p).2 → 128 ≤ (s.get! (p + j)).toNat := by
  have h0 : 128 ≤ (s.get! p).toNat := by
    by_cases h0 : (s.get! p).toNat < 128
    · rw [decode_low s p h0] at h; omega
    · omega
  intro j hj
  rw [decode_at] at hj
  have hj3 : j = 0 ∨ j = 1 ∨ j = 2 ∨ j = 3 ∨ 4 ≤ j := by omega
  rcases decodeN_shape (s.size - p) (s.get! p).toNat (s.get! (p + 1)).toNat (s.get! (p + 2)).toNat (s.get! (p + 3)).toNat with ⟨_, e⟩ | ⟨_, _, _, _, e⟩ | ⟨_, _, _, _, _, _, e⟩ | ⟨_, _, _, _, _, _, _, e⟩ | e
  all_goals (rw [e] at hj; simp only at hj)
  all_goals (rcases hj3 with rfl | rfl | rfl | rfl | hj3 <;> first | omega | (simp only [Nat.add_zero]; omega))
/-- A character below 128 is its own byte. -/
theorem decode_byte (s : ByteArray) (p : Nat) (h : (Utf8.decode s p).1 < 128) : (Utf8.decode s p).1 = (s.get! p).toNat ∧ (Utf8.decode s p).2 = 1 ∧ (s.get! p).toNat < 128 := by
  by_cases h0 : (s.get! p).toNat < 128
  · rw [decode_low s p h0]; exact ⟨rfl, rfl, h0⟩
  · exfalso
    rw [decode_at] at h
    have k0 := (s.get! p).toNat_lt
    rcases decodeN_shape (s.size - p) (s.get! p).toNat (s.get! (p + 1)).toNat (s.get! (p + 2)).toNat (s.get! (p + 3)).toNat with ⟨_, e⟩ | ⟨_, _, _, _, e⟩ | ⟨_, _, _, _, _, _, e⟩ | ⟨_, _, _, _, _, _, _, e⟩ | e
    all_goals (rw [e] at h; simp only at h; omega)
theorem bang_get (s : ByteArray) (p : Nat) (hp : p < s.size) : s.get! p = s[p] := by
  show s.data[p]! = s.data[p]
  exact getElem!_pos s.data p hp
end Go.Proofs.YtlebikmiophghaaDoor
