/-
  text.Before and the reference's Before: what each answers. Conditions: the two tables of unicode/utf8.
-/
import Derived.Test.YtkomodicpfbkhaaDoorTextRune
import Derived.Test.YtkomodicpfbkhaaDoorUtf
namespace Go.Proofs.YtkomodicpfbkhaaDoor
open Go.RowKit Go.Lib

/-- The character that ends at an offset: its beginning at most n bytes ahead. -/
def beforeFrom (s : ByteArray) (i : Int) : Nat → Int
  | 0 => 65533
  | n + 1 => if ((n : Int) + 1 ≤ i) ∧ (runeP s (i - ((n : Int) + 1))).2 = (n : Int) + 1 then (runeP s (i - ((n : Int) + 1))).1 else beforeFrom s i n
def beforeP (s : ByteArray) (i : Int) : Int := if i < 1 ∨ (s.size : Int) < i then -1 else beforeFrom s i 4

theorem runeP_neg (s : ByteArray) (i : Int) (h : i < 0) : runeP s i = (0, 0) := by unfold runeP; rw [if_pos (Or.inl h)]
theorem runeP_bounds (s : ByteArray) (i : Int) : 0 ≤ (runeP s i).1 ∧ (runeP s i).1 ≤ 1114111 ∧ 0 ≤ (runeP s i).2 ∧ (runeP s i).2 ≤ 4 := by
  unfold runeP
  split
  · simp
  · have h1 : (Utf8.decode s i.toNat).1 ≤ 1114111 := rune_le s i.toNat
    have h2 := decode_le s i.toNat
    have h3 : (Utf8.decode s i.toNat).2 ≤ 4 := by
      rw [decode_at]
      rcases decodeN_shape (s.size - i.toNat) (s.get! i.toNat).toNat (s.get! (i.toNat + 1)).toNat (s.get! (i.toNat + 2)).toNat (s.get! (i.toNat + 3)).toNat with ⟨_, e⟩ | ⟨_, _, _, _, e⟩ | ⟨_, _, _, _, _, _, e⟩ | ⟨_, _, _, _, _, _, _, e⟩ | e
      all_goals (rw [e]; simp)
    simp only
    omega

theorem beforeFrom_succ (s : ByteArray) (i : Int) (n : Nat) (h : (n : Int) + 1 ≤ i) : beforeFrom s i (n + 1) = if (runeP s (i - ((n : Int) + 1))).2 = (n : Int) + 1 then (runeP s (i - ((n : Int) + 1))).1 else beforeFrom s i n := by
  simp only [beforeFrom, h, true_and]
theorem beforeFrom_over (s : ByteArray) (i : Int) (n : Nat) (h : ¬ (n : Int) + 1 ≤ i) : beforeFrom s i (n + 1) = beforeFrom s i n := by
  simp only [beforeFrom, h, false_and, if_false]

theorem beforeFrom_min (s : ByteArray) (i : Int) (h1 : 1 ≤ i) (k : Nat) (hk : min i 4 = k) : beforeFrom s i 4 = beforeFrom s i k := by
  have hlt : i = 1 ∨ i = 2 ∨ i = 3 ∨ 4 ≤ i := by omega
  rcases hlt with rfl | rfl | rfl | h
  · obtain rfl : k = 1 := by omega
    rw [beforeFrom_over _ _ _ (by omega), beforeFrom_over _ _ _ (by omega), beforeFrom_over _ _ _ (by omega)]
  · obtain rfl : k = 2 := by omega
    rw [beforeFrom_over _ _ _ (by omega), beforeFrom_over _ _ _ (by omega)]
  · obtain rfl : k = 3 := by omega
    rw [beforeFrom_over _ _ _ (by omega)]
  · obtain rfl : k = 4 := by omega
    rfl

theorem runeV_P (s : ByteArray) (i : Int) : runeV s i = .tuple #[.int .i64 (runeP s i).1, .int .i64 (runeP s i).2] := rfl

theorem ret_int {a b : Int} (h : a = b) : Ending.returned (.int .i64 a) = .returned (.int .i64 b) := by rw [h]

set_option maxHeartbeats 2000000 in
theorem before_any (s : ByteArray) (hs : s.size ≤ maxLen) (i : Int) (w : World) (hT : Tabs w) : Calls Tryd.prog 11 #[.string s, .int .i64 i] w fun e w' => e = .returned (.int .i64 (beforeP s i)) ∧ Below w.heap.size w w' := by
  by_cases ho : i < 1 ∨ (s.size : Int) < i
  · have HP := Lib.hid (show beforeP s i = -1 by unfold beforeP; rw [if_pos ho])
    unfold maxLen at hs
    by_cases h0 : i < 1
    · clear ho
      go_enter Tryd.func11, Tryd.ntmps11
      go_wp2
      go_ret
      exact ⟨by rw [HP.out]; rfl, Below.refl _ _⟩
    · have h1 : (s.size : Int) < i := by omega
      clear ho
      go_enter Tryd.func11, Tryd.ntmps11
      go_wp2
      go_ret
      exact ⟨by rw [HP.out]; rfl, Below.refl _ _⟩
  · obtain ⟨K, hK⟩ : ∃ K : Nat, min i 4 = K := ⟨(min i 4).toNat, by omega⟩
    have HP := Lib.hid (show beforeP s i = beforeFrom s i K by unfold beforeP; rw [if_neg ho]; exact beforeFrom_min s i (by omega) K hK)
    have HK := Lib.hid hK
    have hK4 : K ≤ 4 := by omega
    have hKi : (K : Int) ≤ i := by omega
    have h0 : decide (i < 1) = false := by simp; omega
    have h1 : decide ((s.size : Int) < i) = false := by simp; omega
    have h2 : i ≤ (s.size : Int) := by omega
    clear ho hK
    have hs' := hs
    unfold maxLen at hs'
    go_enter Tryd.func11, Tryd.ntmps11
    go_wp2
    go_loopw [5, 6, 7] (fun n _ _ wr => ∃ N : Nat, N ≤ K ∧ n = .int .i64 N ∧ Below w.heap.size w wr ∧ beforeFrom s i K = beforeFrom s i N) (fun n _ _ _ => (RowKit.intOf n).toNat)
    case atStart => exact ⟨K, Nat.le_refl _, by rw [HK.out], Below.refl _ _, rfl⟩
    case round =>
      obtain ⟨N, hN, rfl, hb, hf⟩ := hrel
      have HF := Lib.hid hf
      clear hf
      have hTr := hT.below hb
      cases N with
      | zero =>
        go_wp2
        go_ret
        exact ⟨by rw [HP.out, HF.out]; rfl, hb⟩
      | succ N =>
        have HU := Lib.hid (beforeFrom_succ s i N (by omega))
        have hbd := runeP_bounds s (i - ((N : Int) + 1))
        have HV := Lib.hid (runeV_P s (i - ((N : Int) + 1)))
        generalize hr : runeP s (i - ((N : Int) + 1)) = q at *
        obtain ⟨v, m⟩ := q
        simp only at hbd
        by_cases hm : m = ((N : Int) + 1)
        all_goals
          go_wp2_with (go_at_call 12; refine (text_rune_any s hs _ _ hTr).mono ?_; rintro e w1 ⟨rfl, b1⟩; rw [HV.out])
        · go_ret
          refine ⟨?_, hb.trans (b1.mono hb.size)⟩
          rw [HP.out, HF.out, HU.out]
          rw [if_pos hm]; rfl
        · go_roundw
          case rel =>
            refine ⟨N, by omega, by go_num, hb.trans (b1.mono hb.size), ?_⟩
            rw [HF.out, HU.out]
            rw [if_neg hm]
          case measure => simp [RowKit.intOf]

set_option maxHeartbeats 2000000 in
theorem ref_before_any (s : ByteArray) (hs : s.size ≤ maxLen) (i : Int) (w : World) : Calls Tryd.prog 13 #[.string s, .int .i64 i] w fun e w' => e = .returned (.int .i64 (beforeP s i)) ∧ Below w.heap.size w w' := by
  by_cases ho : i < 1 ∨ (s.size : Int) < i
  · have HP := Lib.hid (show beforeP s i = -1 by unfold beforeP; rw [if_pos ho])
    unfold maxLen at hs
    by_cases h0 : i < 1
    · clear ho
      go_enter Tryd.func13, Tryd.ntmps13
      go_wp2
      go_ret
      exact ⟨by rw [HP.out]; rfl, Below.refl _ _⟩
    · have h1 : (s.size : Int) < i := by omega
      clear ho
      go_enter Tryd.func13, Tryd.ntmps13
      go_wp2
      go_ret
      exact ⟨by rw [HP.out]; rfl, Below.refl _ _⟩
  · have HP := Lib.hid (show beforeP s i = beforeFrom s i 4 by unfold beforeP; rw [if_neg ho])
    have h1 : 1 ≤ i := by omega
    have h0 : decide (i < 1) = false := by simp; omega
    have h1 : decide ((s.size : Int) < i) = false := by simp; omega
    have h2 : i ≤ (s.size : Int) := by omega
    have h3 : 1 ≤ i := by omega
    clear ho
    have hs' := hs
    unfold maxLen at hs'
    go_enter Tryd.func13, Tryd.ntmps13
    go_wp2
    go_loopw [5, 6, 7] (fun n _ _ wr => ∃ N : Nat, N ≤ 4 ∧ n = .int .i64 N ∧ Below w.heap.size w wr ∧ beforeFrom s i 4 = beforeFrom s i N) (fun n _ _ _ => (RowKit.intOf n).toNat)
    case atStart => exact ⟨4, by omega, rfl, Below.refl _ _, rfl⟩
    case round =>
      obtain ⟨N, hN, rfl, hb, hf⟩ := hrel
      have HF := Lib.hid hf
      clear hf
      cases N with
      | zero =>
        go_wp2
        go_ret
        exact ⟨by rw [HP.out, HF.out]; rfl, hb⟩
      | succ N =>
        have HV := Lib.hid (runeV_P s (i - ((N : Int) + 1)))
        have hbd := runeP_bounds s (i - ((N : Int) + 1))
        by_cases hle : (N : Int) + 1 ≤ i
        · have HU := Lib.hid (beforeFrom_succ s i N hle)
          generalize hr : runeP s (i - ((N : Int) + 1)) = q at *
          obtain ⟨v, m⟩ := q
          simp only at hbd
          by_cases hm : m = ((N : Int) + 1)
          all_goals
            go_wp2_with (go_at_call 24; refine (ref_rune_any s hs _ _).mono ?_; rintro e w1 ⟨rfl, b1⟩; rw [HV.out])
          · go_ret
            refine ⟨?_, hb.trans (b1.mono hb.size)⟩
            rw [HP.out, HF.out, HU.out]
            rw [if_pos hm]; rfl
          · go_roundw
            case rel =>
              refine ⟨N, by omega, by go_num, hb.trans (b1.mono hb.size), ?_⟩
              rw [HF.out, HU.out]
              rw [if_neg hm]
            case measure => simp [RowKit.intOf]
        · have HU := Lib.hid (beforeFrom_over s i N hle)
          generalize hr : runeP s (i - ((N : Int) + 1)) = q at *
          obtain ⟨v, m⟩ := q
          simp only at hbd
          go_wp2_with (go_at_call 24; refine (ref_rune_any s hs _ _).mono ?_; rintro e w1 ⟨rfl, b1⟩; rw [HV.out])
          go_roundw
          case rel =>
            refine ⟨N, by omega, by go_num, hb.trans (b1.mono hb.size), ?_⟩
            rw [HF.out, HU.out]
          case measure => simp [RowKit.intOf]

/-- A character with more than one byte: its first byte is no continuation byte, its other bytes are. -/
theorem runeP_long (s : ByteArray) (i : Int) (h : 1 < (runeP s i).2) : 0 ≤ i ∧ i + (runeP s i).2 ≤ s.size ∧ 192 ≤ (s.get! i.toNat).toNat ∧
    ∀ j : Nat, 1 ≤ j → (j : Int) < (runeP s i).2 → (s.get! (i.toNat + j)).toNat < 192 := by
  unfold runeP at h ⊢
  split at h
  · simp at h
  · rename_i ho
    rw [if_neg ho]
    simp only at h ⊢
    have hd := decode_end s i.toNat (by omega)
    refine ⟨by omega, by omega, ?_, ?_⟩
    · rw [decode_at] at h
      rcases decodeN_shape (s.size - i.toNat) (s.get! i.toNat).toNat (s.get! (i.toNat + 1)).toNat (s.get! (i.toNat + 2)).toNat (s.get! (i.toNat + 3)).toNat with ⟨_, e⟩ | ⟨_, _, _, _, e⟩ | ⟨_, _, _, _, _, _, e⟩ | ⟨_, _, _, _, _, _, _, e⟩ | e
      all_goals (rw [e] at h; simp only at h; omega)
    · intro j hj1 hj2
      rw [decode_at] at h hj2
      have hj : j = 1 ∨ j = 2 ∨ j = 3 ∨ 4 ≤ j := by omega
      rcases decodeN_shape (s.size - i.toNat) (s.get! i.toNat).toNat (s.get! (i.toNat + 1)).toNat (s.get! (i.toNat + 2)).toNat (s.get! (i.toNat + 3)).toNat with ⟨_, e⟩ | ⟨_, _, _, _, e⟩ | ⟨_, _, _, _, _, _, e⟩ | ⟨_, _, _, _, _, _, _, e⟩ | e
      all_goals (rw [e] at h hj2; simp only at h hj2)
      all_goals (rcases hj with rfl | rfl | rfl | hj <;> omega)

/-- Behind a character with more than one byte the character ahead is that one. -/
theorem beforeP_behind (s : ByteArray) (i : Int) (h : 1 < (runeP s i).2) : beforeP s (i + (runeP s i).2) = (runeP s i).1 := by
  obtain ⟨h0, h1, h2, _⟩ := runeP_long s i h
  have h4 := (runeP_bounds s i).2.2.2
  have key : ∀ m : Nat, (runeP s i).2 < m → m ≤ 4 → (m : Int) ≤ i + (runeP s i).2 → (runeP s (i + (runeP s i).2 - m)).2 ≠ m := by
    intro m hm hm4 hmi e
    obtain ⟨g0, g1, g2, g3⟩ := runeP_long s (i + (runeP s i).2 - m) (by omega)
    have := g3 (m - (runeP s i).2).toNat (by omega) (by omega)
    have e2 : (i + (runeP s i).2 - m).toNat + ((m : Int) - (runeP s i).2).toNat = i.toNat := by omega
    rw [e2] at this
    omega
  have step : ∀ m : Nat, m ≤ 4 → (runeP s i).2 ≤ m → beforeFrom s (i + (runeP s i).2) m = (runeP s i).1 := by
    intro m
    induction m with
    | zero => intro _ hle; omega
    | succ m ih =>
      intro hm4 hle
      by_cases hmi : (m : Int) + 1 ≤ i + (runeP s i).2
      · rw [beforeFrom_succ _ _ _ hmi]
        by_cases he : (runeP s i).2 = (m : Int) + 1
        · have : i + (runeP s i).2 - ((m : Int) + 1) = i := by omega
          rw [this, if_pos he]
        · have hk := key (m + 1) (by omega) hm4 (by omega)
          have e3 : ((m + 1 : Nat) : Int) = (m : Int) + 1 := by omega
          rw [e3] at hk
          rw [if_neg hk]
          exact ih (by omega) (by omega)
      · rw [beforeFrom_over _ _ _ hmi]
        exact ih (by omega) (by omega)
  unfold beforeP
  rw [if_neg (by omega)]
  exact step 4 (by omega) (by omega)
end Go.Proofs.YtkomodicpfbkhaaDoor
