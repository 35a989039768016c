/-
  The reference's Rune: it answers the model's own decoding. Conditions: none.
-/
import Derived.Test.YtkomodicpfbkhaaDoorRefRuneA
namespace Go.Proofs.YtkomodicpfbkhaaDoor
set_option linter.unusedVariables false
open Go.RowKit Go.Lib

set_option maxHeartbeats 8000000 in
set_option maxRecDepth 100000 in
theorem ref_rune_2 (s : ByteArray) (hs : s.size ≤ maxLen) (p : Nat) (hp : p < s.size) (h0 : 192 ≤ (s[p]).toNat) (h1 : (s[p]).toNat < 224) (hn : p + 2 ≤ s.size) (w : World) : Calls Tryd.prog 24 #[.string s, .int .i64 p] w fun e w' => e = .returned (runeV s p) ∧ Below w.heap.size w w' := by
  have HB := Lib.hid (runeV_bad2 s p hp h0 h1)
  have HO := Lib.hid (runeV_good2 s p hp h0 h1 hn)
  unfold maxLen at hs
  have hb := (s[p]).toNat_lt
  have e0 : decide ((p : Int) < 0) = false := by simp
  have e1 : decide (((s[p]).toNat : Int) < 128) = false := by simp; omega
  have f0 : decide (((s[p]).toNat : Int) < 224) = true := by simp; omega
  have e5 : decide ((s.size : Int) - (p : Int) < 2) = false := by simp; omega
  go_enter Tryd.func24, Tryd.ntmps24
  go_wp2
  go_loop [8, 9, 10] (fun v i _ => ∃ k : Nat, k < 2 ∧ i = .int .i64 (k + 1) ∧ v = .int .i64 (contV s p ((s[p]).toNat - 192) k) ∧ (0 ≤ contV s p ((s[p]).toNat - 192) k ∧ contV s p ((s[p]).toNat - 192) k < 32 * 64 ^ k) ∧ (∀ j, 1 ≤ j → j < k + 1 → 128 ≤ (s.get! (p + j)).toNat ∧ (s.get! (p + j)).toNat < 192)) (fun _ i _ => 2 - (intOf i).toNat)
  case atStart => exact ⟨0, by omega, rfl, rfl, by simp only [contV]; omega, by omega⟩
  case round =>
    obtain ⟨k, hk, rfl, rfl, ⟨hv0, hv1⟩, hc⟩ := hrel
    have HS := Lib.hid (show contV s p ((s[p]).toNat - 192) (k + 1) = contV s p ((s[p]).toNat - 192) k * 64 + ((s.get! (p + (k + 1))).toNat : Int) - 128 from rfl)
    have hbound : contV s p ((s[p]).toNat - 192) k < 2097152 := by
      have : k = 0 ∨ k = 1 := by omega
      rcases this with rfl | rfl <;> simp at hv1 <;> omega
    have HV1 := Lib.hid hv1
    have HC := Lib.hid hc
    clear hc hv1
    by_cases hlt : k + 1 < 2
    · have hq : p + (k + 1) < s.size := by omega
      have hg := get_bang s (p + (k + 1)) hq
      have hb1 := (s[p + (k + 1)]'hq).toNat_lt
      have HG := Lib.hid hg
      clear hg
      by_cases c0 : (s[p + (k + 1)]'hq).toNat < 128
      · go_wp2
        go_ret2
        exact ⟨by rw [HB.out k hlt (by rw [HG.out]; exact Or.inl c0)]; rfl, Below.refl _ _⟩
      · by_cases c1 : 192 ≤ (s[p + (k + 1)]'hq).toNat
        · go_wp2
          go_ret2
          exact ⟨by rw [HB.out k hlt (by rw [HG.out]; exact Or.inr c1)]; rfl, Below.refl _ _⟩
        · go_wp2
          go_round
          case rel =>
            have e : contV s p ((s[p]).toNat - 192) (k + 1) = contV s p ((s[p]).toNat - 192) k * 64 + ((s[p + (k + 1)]'hq).toNat : Int) - 128 := by rw [HS.out, HG.out]
            refine ⟨k + 1, by omega, by go_num, ?_, ?_, ?_⟩
            · rw [e]
            · rw [e]
              have hp64 : (32 : Int) * 64 ^ (k + 1) = 32 * 64 ^ k * 64 := by rw [Int.pow_succ, Int.mul_assoc]
              rw [hp64]
              have := HV1.out
              omega
            · intro j hj1 hj2
              by_cases hj : j = k + 1
              · subst hj; rw [HG.out]; omega
              · exact HC.out j hj1 (by omega)
          case measure => simp [intOf]; omega
    · obtain rfl : k = 1 := by omega
      have HR := Lib.hid (HO.out HC.out _ rfl)
      clear HO HB HS HC HV1
      generalize contV s p ((s[p]).toNat - 192) 1 = v at *
      by_cases t0 : v < 128
      · have HQ := Lib.hid (HR.out.2 (Or.inl t0))
        clear HR
        all_goals
          go_wp2
          go_ret2
          exact ⟨by rw [HQ.out]; rfl, (Below.refl _ _).alloc (Nat.le_refl _) _⟩
      · by_cases t1 : 1114111 < v
        · have HQ := Lib.hid (HR.out.2 (Or.inr (Or.inl t1)))
          clear HR
          all_goals
            go_wp2
            go_ret2
            exact ⟨by rw [HQ.out]; rfl, (Below.refl _ _).alloc (Nat.le_refl _) _⟩
        · by_cases t2 : 55296 ≤ v
          · by_cases t3 : v < 57344
            · have HQ := Lib.hid (HR.out.2 (Or.inr (Or.inr ⟨t2, t3⟩)))
              clear HR
              try (exfalso; omega)
              all_goals
                go_wp2
                go_ret2
                exact ⟨by rw [HQ.out]; rfl, (Below.refl _ _).alloc (Nat.le_refl _) _⟩
            · have HQ := Lib.hid (HR.out.1 (by omega))
              clear HR
              all_goals
                go_wp2
                go_ret2
                exact ⟨by rw [HQ.out]; rfl, (Below.refl _ _).alloc (Nat.le_refl _) _⟩
          · have HQ := Lib.hid (HR.out.1 (by omega))
            clear HR
            try (exfalso; omega)
            all_goals
              go_wp2
              go_ret2
              exact ⟨by rw [HQ.out]; rfl, (Below.refl _ _).alloc (Nat.le_refl _) _⟩

set_option maxHeartbeats 8000000 in
set_option maxRecDepth 100000 in
theorem ref_rune_3 (s : ByteArray) (hs : s.size ≤ maxLen) (p : Nat) (hp : p < s.size) (h0 : 224 ≤ (s[p]).toNat) (h1 : (s[p]).toNat < 240) (hn : p + 3 ≤ s.size) (w : World) : Calls Tryd.prog 24 #[.string s, .int .i64 p] w fun e w' => e = .returned (runeV s p) ∧ Below w.heap.size w w' := by
  have HB := Lib.hid (runeV_bad3 s p hp h0 h1)
  have HO := Lib.hid (runeV_good3 s p hp h0 h1 hn)
  unfold maxLen at hs
  have hb := (s[p]).toNat_lt
  have e0 : decide ((p : Int) < 0) = false := by simp
  have e1 : decide (((s[p]).toNat : Int) < 128) = false := by simp; omega
  have f0 : decide (((s[p]).toNat : Int) < 224) = false := by simp; omega
  have f1 : decide (((s[p]).toNat : Int) < 240) = true := by simp; omega
  have e5 : decide ((s.size : Int) - (p : Int) < 3) = false := by simp; omega
  go_enter Tryd.func24, Tryd.ntmps24
  go_wp2
  go_loop [8, 9, 10] (fun v i _ => ∃ k : Nat, k < 3 ∧ i = .int .i64 (k + 1) ∧ v = .int .i64 (contV s p ((s[p]).toNat - 224) k) ∧ (0 ≤ contV s p ((s[p]).toNat - 224) k ∧ contV s p ((s[p]).toNat - 224) k < 16 * 64 ^ k) ∧ (∀ j, 1 ≤ j → j < k + 1 → 128 ≤ (s.get! (p + j)).toNat ∧ (s.get! (p + j)).toNat < 192)) (fun _ i _ => 3 - (intOf i).toNat)
  case atStart => exact ⟨0, by omega, rfl, rfl, by simp only [contV]; omega, by omega⟩
  case round =>
    obtain ⟨k, hk, rfl, rfl, ⟨hv0, hv1⟩, hc⟩ := hrel
    have HS := Lib.hid (show contV s p ((s[p]).toNat - 224) (k + 1) = contV s p ((s[p]).toNat - 224) k * 64 + ((s.get! (p + (k + 1))).toNat : Int) - 128 from rfl)
    have hbound : contV s p ((s[p]).toNat - 224) k < 2097152 := by
      have : k = 0 ∨ k = 1 ∨ k = 2 := by omega
      rcases this with rfl | rfl | rfl <;> simp at hv1 <;> omega
    have HV1 := Lib.hid hv1
    have HC := Lib.hid hc
    clear hc hv1
    by_cases hlt : k + 1 < 3
    · have hq : p + (k + 1) < s.size := by omega
      have hg := get_bang s (p + (k + 1)) hq
      have hb1 := (s[p + (k + 1)]'hq).toNat_lt
      have HG := Lib.hid hg
      clear hg
      by_cases c0 : (s[p + (k + 1)]'hq).toNat < 128
      · go_wp2
        go_ret2
        exact ⟨by rw [HB.out k hlt (by rw [HG.out]; exact Or.inl c0)]; rfl, Below.refl _ _⟩
      · by_cases c1 : 192 ≤ (s[p + (k + 1)]'hq).toNat
        · go_wp2
          go_ret2
          exact ⟨by rw [HB.out k hlt (by rw [HG.out]; exact Or.inr c1)]; rfl, Below.refl _ _⟩
        · go_wp2
          go_round
          case rel =>
            have e : contV s p ((s[p]).toNat - 224) (k + 1) = contV s p ((s[p]).toNat - 224) k * 64 + ((s[p + (k + 1)]'hq).toNat : Int) - 128 := by rw [HS.out, HG.out]
            refine ⟨k + 1, by omega, by go_num, ?_, ?_, ?_⟩
            · rw [e]
            · rw [e]
              have hp64 : (16 : Int) * 64 ^ (k + 1) = 16 * 64 ^ k * 64 := by rw [Int.pow_succ, Int.mul_assoc]
              rw [hp64]
              have := HV1.out
              omega
            · intro j hj1 hj2
              by_cases hj : j = k + 1
              · subst hj; rw [HG.out]; omega
              · exact HC.out j hj1 (by omega)
          case measure => simp [intOf]; omega
    · obtain rfl : k = 2 := by omega
      have HR := Lib.hid (HO.out HC.out _ rfl)
      clear HO HB HS HC HV1
      generalize contV s p ((s[p]).toNat - 224) 2 = v at *
      by_cases t0 : v < 2048
      · have HQ := Lib.hid (HR.out.2 (Or.inl t0))
        clear HR
        all_goals
          go_wp2
          go_ret2
          exact ⟨by rw [HQ.out]; rfl, (Below.refl _ _).alloc (Nat.le_refl _) _⟩
      · by_cases t1 : 1114111 < v
        · have HQ := Lib.hid (HR.out.2 (Or.inr (Or.inl t1)))
          clear HR
          all_goals
            go_wp2
            go_ret2
            exact ⟨by rw [HQ.out]; rfl, (Below.refl _ _).alloc (Nat.le_refl _) _⟩
        · by_cases t2 : 55296 ≤ v
          · by_cases t3 : v < 57344
            · have HQ := Lib.hid (HR.out.2 (Or.inr (Or.inr ⟨t2, t3⟩)))
              clear HR
              try (exfalso; omega)
              all_goals
                go_wp2
                go_ret2
                exact ⟨by rw [HQ.out]; rfl, (Below.refl _ _).alloc (Nat.le_refl _) _⟩
            · have HQ := Lib.hid (HR.out.1 (by omega))
              clear HR
              all_goals
                go_wp2
                go_ret2
                exact ⟨by rw [HQ.out]; rfl, (Below.refl _ _).alloc (Nat.le_refl _) _⟩
          · have HQ := Lib.hid (HR.out.1 (by omega))
            clear HR
            try (exfalso; omega)
            all_goals
              go_wp2
              go_ret2
              exact ⟨by rw [HQ.out]; rfl, (Below.refl _ _).alloc (Nat.le_refl _) _⟩

set_option maxHeartbeats 8000000 in
set_option maxRecDepth 100000 in
theorem ref_rune_4 (s : ByteArray) (hs : s.size ≤ maxLen) (p : Nat) (hp : p < s.size) (h0 : 240 ≤ (s[p]).toNat) (h1 : (s[p]).toNat < 248) (hn : p + 4 ≤ s.size) (w : World) : Calls Tryd.prog 24 #[.string s, .int .i64 p] w fun e w' => e = .returned (runeV s p) ∧ Below w.heap.size w w' := by
  have HB := Lib.hid (runeV_bad4 s p hp h0 h1)
  have HO := Lib.hid (runeV_good4 s p hp h0 h1 hn)
  unfold maxLen at hs
  have hb := (s[p]).toNat_lt
  have e0 : decide ((p : Int) < 0) = false := by simp
  have e1 : decide (((s[p]).toNat : Int) < 128) = false := by simp; omega
  have f0 : decide (((s[p]).toNat : Int) < 224) = false := by simp; omega
  have f1 : decide (((s[p]).toNat : Int) < 240) = false := by simp; omega
  have f2 : decide (((s[p]).toNat : Int) < 248) = true := by simp; omega
  have e5 : decide ((s.size : Int) - (p : Int) < 4) = false := by simp; omega
  go_enter Tryd.func24, Tryd.ntmps24
  go_wp2
  go_loop [8, 9, 10] (fun v i _ => ∃ k : Nat, k < 4 ∧ i = .int .i64 (k + 1) ∧ v = .int .i64 (contV s p ((s[p]).toNat - 240) k) ∧ (0 ≤ contV s p ((s[p]).toNat - 240) k ∧ contV s p ((s[p]).toNat - 240) k < 8 * 64 ^ k) ∧ (∀ j, 1 ≤ j → j < k + 1 → 128 ≤ (s.get! (p + j)).toNat ∧ (s.get! (p + j)).toNat < 192)) (fun _ i _ => 4 - (intOf i).toNat)
  case atStart => exact ⟨0, by omega, rfl, rfl, by simp only [contV]; omega, by omega⟩
  case round =>
    obtain ⟨k, hk, rfl, rfl, ⟨hv0, hv1⟩, hc⟩ := hrel
    have HS := Lib.hid (show contV s p ((s[p]).toNat - 240) (k + 1) = contV s p ((s[p]).toNat - 240) k * 64 + ((s.get! (p + (k + 1))).toNat : Int) - 128 from rfl)
    have hbound : contV s p ((s[p]).toNat - 240) k < 2097152 := by
      have : k = 0 ∨ k = 1 ∨ k = 2 ∨ k = 3 := by omega
      rcases this with rfl | rfl | rfl | rfl <;> simp at hv1 <;> omega
    have HV1 := Lib.hid hv1
    have HC := Lib.hid hc
    clear hc hv1
    by_cases hlt : k + 1 < 4
    · have hq : p + (k + 1) < s.size := by omega
      have hg := get_bang s (p + (k + 1)) hq
      have hb1 := (s[p + (k + 1)]'hq).toNat_lt
      have HG := Lib.hid hg
      clear hg
      by_cases c0 : (s[p + (k + 1)]'hq).toNat < 128
      · go_wp2
        go_ret2
        exact ⟨by rw [HB.out k hlt (by rw [HG.out]; exact Or.inl c0)]; rfl, Below.refl _ _⟩
      · by_cases c1 : 192 ≤ (s[p + (k + 1)]'hq).toNat
        · go_wp2
          go_ret2
          exact ⟨by rw [HB.out k hlt (by rw [HG.out]; exact Or.inr c1)]; rfl, Below.refl _ _⟩
        · go_wp2
          go_round
          case rel =>
            have e : contV s p ((s[p]).toNat - 240) (k + 1) = contV s p ((s[p]).toNat - 240) k * 64 + ((s[p + (k + 1)]'hq).toNat : Int) - 128 := by rw [HS.out, HG.out]
            refine ⟨k + 1, by omega, by go_num, ?_, ?_, ?_⟩
            · rw [e]
            · rw [e]
              have hp64 : (8 : Int) * 64 ^ (k + 1) = 8 * 64 ^ k * 64 := by rw [Int.pow_succ, Int.mul_assoc]
              rw [hp64]
              have := HV1.out
              omega
            · intro j hj1 hj2
              by_cases hj : j = k + 1
              · subst hj; rw [HG.out]; omega
              · exact HC.out j hj1 (by omega)
          case measure => simp [intOf]; omega
    · obtain rfl : k = 3 := by omega
      have HR := Lib.hid (HO.out HC.out _ rfl)
      clear HO HB HS HC HV1
      generalize contV s p ((s[p]).toNat - 240) 3 = v at *
      by_cases t0 : v < 65536
      · have HQ := Lib.hid (HR.out.2 (Or.inl t0))
        clear HR
        all_goals
          go_wp2
          go_ret2
          exact ⟨by rw [HQ.out]; rfl, (Below.refl _ _).alloc (Nat.le_refl _) _⟩
      · by_cases t1 : 1114111 < v
        · have HQ := Lib.hid (HR.out.2 (Or.inr (Or.inl t1)))
          clear HR
          all_goals
            go_wp2
            go_ret2
            exact ⟨by rw [HQ.out]; rfl, (Below.refl _ _).alloc (Nat.le_refl _) _⟩
        · by_cases t2 : 55296 ≤ v
          · by_cases t3 : v < 57344
            · have HQ := Lib.hid (HR.out.2 (Or.inr (Or.inr ⟨t2, t3⟩)))
              clear HR
              try (exfalso; omega)
              all_goals
                go_wp2
                go_ret2
                exact ⟨by rw [HQ.out]; rfl, (Below.refl _ _).alloc (Nat.le_refl _) _⟩
            · have HQ := Lib.hid (HR.out.1 (by omega))
              clear HR
              all_goals
                go_wp2
                go_ret2
                exact ⟨by rw [HQ.out]; rfl, (Below.refl _ _).alloc (Nat.le_refl _) _⟩
          · have HQ := Lib.hid (HR.out.1 (by omega))
            clear HR
            try (exfalso; omega)
            all_goals
              go_wp2
              go_ret2
              exact ⟨by rw [HQ.out]; rfl, (Below.refl _ _).alloc (Nat.le_refl _) _⟩

theorem ref_rune_any (s : ByteArray) (hs : s.size ≤ maxLen) (i : Int) (w : World) : Calls Tryd.prog 24 #[.string s, .int .i64 i] w fun e w' => e = .returned (runeV s i) ∧ Below w.heap.size w w' := by
  by_cases ho : i < 0 ∨ (s.size : Int) ≤ i
  · exact ref_rune_out s i ho w
  · obtain ⟨p, rfl⟩ : ∃ p : Nat, i = p := ⟨i.toNat, by omega⟩
    have hp : p < s.size := by omega
    by_cases h1 : (s[p]).toNat < 128
    · exact ref_rune_1 s p hp h1 w
    · by_cases h2 : (s[p]).toNat < 192
      · exact ref_rune_0 s p hp (Or.inl ⟨by omega, h2⟩) w
      · by_cases h3 : (s[p]).toNat < 224
        · by_cases hn : s.size < p + 2
          · exact ref_rune_short2 s p hp (by omega) h3 hn w
          · exact ref_rune_2 s hs p hp (by omega) h3 (by omega) w
        · by_cases h4 : (s[p]).toNat < 240
          · by_cases hn : s.size < p + 3
            · exact ref_rune_short3 s p hp (by omega) h4 hn w
            · exact ref_rune_3 s hs p hp (by omega) h4 (by omega) w
          · by_cases h5 : (s[p]).toNat < 248
            · by_cases hn : s.size < p + 4
              · exact ref_rune_short4 s p hp (by omega) h5 hn w
              · exact ref_rune_4 s hs p hp (by omega) h5 (by omega) w
            · exact ref_rune_0 s p hp (Or.inr (by omega)) w
end Go.Proofs.YtkomodicpfbkhaaDoor
