/-
  The walk of RulesLetters: it returns true whatever the word. Conditions: the two tables of unicode/utf8.
-/
import Derived.Test.YtlebikmiophghaaDoorRulesAlive
namespace Go.Proofs.YtlebikmiophghaaDoor
open Go.RowKit Go.Lib

namespace rulesLetters
set_option maxHeartbeats 8000000 in
set_option maxRecDepth 100000 in
theorem walk (s : ByteArray) (hs : s.size ≤ maxLen) (w : World) (hT : Tabs w) :
    Calls Tryd.prog 10 #[.string s] w fun e w' => e = .returned (.bool true) ∧ Below w.heap.size w w' := by
  obtain ⟨i0, hi, hz0, hz1, hz2⟩ := info_parts infoByteD
  unfold maxLen at hs
  by_cases hbig : 1000 < s.size
  · go_enter Tryd.func10, Tryd.ntmps10
    go_wp2_with fail
    refine (rules_alive _ hT).mono ?_
    rintro e w1 ⟨rfl, b1⟩
    go_wp2_with fail
    go_ret
    exact ⟨rfl, b1⟩
  · have hsl := ba_len s
    go_enter Tryd.func10, Tryd.ntmps10
    go_wp2_with fail
    refine (rules_alive _ hT).mono ?_
    rintro e w1 ⟨rfl, b1⟩
    have z1 := b1.size
    go_wp2_with fail
    go_loopw [3, 4, 5] (fun uv iv _ wr => ∃ (k g cap : Nat), k ≤ s.size ∧ uv = .slice (some ⟨g, 0, none⟩) k cap ∧ iv = .int .i64 k ∧ wr.ownsRow w.heap.size 5 1 (.slice (some ⟨g, 0, none⟩) k cap) k (byteCells ((s.data.toList.take k).map upB)) ∧ Below w.heap.size w wr) (fun _ iv _ _ => s.size - (RowKit.intOf iv).toNat)
    case atStart =>
      exact ⟨0, w1.heap.size, 0, Nat.zero_le _, rfl, rfl, ⟨rfl, .inr ⟨w1.heap.size, 0, #[], rfl, by omega, heap_alloc_new w1 _, Nat.le_refl _, by decide, rfl, rfl⟩⟩, b1.alloc (by omega) _⟩
    case round =>
      obtain ⟨k, g, cap, hk, rfl, rfl, hown, hbw⟩ := hrel
      have hws := hbw.size
      by_cases hks : k < s.size
      · have HT := Lib.hid (take_up s k hks)
        have hb := (s[k]).toNat_lt
        have hvl := upB_nat s[k]
        by_cases hup : 97 ≤ (s[k]).toNat ∧ (s[k]).toNat ≤ 122
        · rw [if_pos hup] at hvl
          have HV := Lib.hid (show ((upB s[k]).toNat : Int) = (s[k].toNat : Int) - 32 by omega)
          obtain ⟨u1, u2⟩ := hup
          clear hvl
          go_wp2_with (at_builtin; (refine wpList_append_own _ rfl _ _ 60 rfl w.heap.size 5 i0 (.int .u8 0) 1 1 Tryd.underlying60 hi hz0 hz1 hz2 rfl (by decide) _ _ _ rfl (hown.alloc _) ⟨wr.heap.size, 0, none⟩ 1 1 [.int .u8 ((s[k].toNat : Int) - 32)] rfl rfl (new_one _ _ _) (by simp [Value.oneCell']) (by unfold maxLen; omega) (by omega) (by simp; omega) ?_); intro v' w2 hown' hgrow _; obtain ⟨g', cap', hv⟩ := owns_form hown' (by omega); subst hv)
          have hbx : Below w.heap.size w w2 := (hbw.alloc (by omega) _).grown hgrow (by simp; omega) (fun kk hk => (ownsRow_lt (hown.alloc (.cells #[.int .u8 ((s[k].toNat : Int) - 32)] 5)) hk).1)
          go_roundw
          case rel =>
            refine ⟨k + 1, g', cap', by omega, rfl, by go_num, ?_, hbx⟩
            rw [HT.out, byteCells_append]
            simpa [byteCells, HV.out] using hown'
          case measure => simp [RowKit.intOf]; omega
        · rw [if_neg hup] at hvl
          have HV := Lib.hid (show ((upB s[k]).toNat : Int) = (s[k].toNat : Int) by omega)
          have hcs : (s[k]).toNat < 97 ∨ (¬ (s[k]).toNat < 97 ∧ 122 < (s[k]).toNat) := by omega
          clear hvl hup
          rcases hcs with u1 | ⟨u1, u2⟩
          all_goals
            go_wp2_with (at_builtin; (refine wpList_append_own _ rfl _ _ 60 rfl w.heap.size 5 i0 (.int .u8 0) 1 1 Tryd.underlying60 hi hz0 hz1 hz2 rfl (by decide) _ _ _ rfl (hown.alloc _) ⟨wr.heap.size, 0, none⟩ 1 1 [.int .u8 (s[k].toNat : Int)] rfl rfl (new_one _ _ _) (by simp [Value.oneCell']) (by unfold maxLen; omega) (by omega) (by simp; omega) ?_); intro v' w2 hown' hgrow _; obtain ⟨g', cap', hv⟩ := owns_form hown' (by omega); subst hv)
            have hbx : Below w.heap.size w w2 := (hbw.alloc (by omega) _).grown hgrow (by simp; omega) (fun kk hk => (ownsRow_lt (hown.alloc (.cells #[.int .u8 (s[k].toNat : Int)] 5)) hk).1)
            go_roundw
            case rel =>
              refine ⟨k + 1, g', cap', by omega, rfl, by go_num, ?_, hbx⟩
              rw [HT.out, byteCells_append]
              simpa [byteCells, HV.out] using hown'
            case measure => simp [RowKit.intOf]; omega
      · obtain rfl : k = s.size := by omega
        have htk : s.data.toList.take s.size = s.data.toList := List.take_of_length_le (by omega)
        rw [htk] at hown
        have HU := Lib.hid (findP_up s.data.toList)
        have HU2 := Lib.hid (namedP_up s.data.toList)
        have hul : (s.data.toList.map upB).length = s.size := by rw [List.length_map, hsl]
        generalize s.data.toList.map upB = up at *
        have hTr := hT.below hbw
        have hcv : ∀ wx, Below wr.heap.size wr wx → (convert 60 9 (.slice (some ⟨g, 0, none⟩) s.size cap)).run Tryd.prog wx = .ok (.string ⟨up.toArray⟩) wx := by
          intro wx hx
          have hownx := ownsRow_below hown hx
          have h := run_convert_bytes_arg (P := Tryd.prog) wx 60 5 Tryd.underlying60 Tryd.underlying5 g 0 s.size cap (up.map fun b => (b.toNat : Int)) (by simpa using hul) (by
            intro i hi
            have := hownx.cellAt i (by omega)
            rw [Nat.zero_add, this]
            simp [byteCells, List.getD, List.getElem?_eq_getElem (show i < up.length by omega)]) 9 Tryd.underlying9
          rw [strOfNums_bytes] at h
          exact h
        have cv0 := hcv wr (Below.refl _ _)
        have kF := fun w hT => find_any ⟨up.toArray⟩ (by rw [ba_size]; omega) w hT
        have kN := fun w hT => named_any ⟨up.toArray⟩ (by rw [ba_size]; omega) w hT
        rw [ba_list] at kF kN
        rw [HU.out] at kF
        rw [HU2.out] at kN
        obtain ⟨nb, nl⟩ := namedP_bound s.data.toList
        go_wp2_with fail
        refine (kF _ hTr).mono ?_
        rintro e w3 ⟨rfl, b3⟩
        have z3 := b3.size
        have hT3 := hTr.below b3
        go_wp2_with fail
        refine (find_any s (by omega) _ hT3).mono ?_
        rintro e w4 ⟨rfl, b4⟩
        have z4 := b4.size
        have hb4 : Below wr.heap.size wr w4 := b3.trans (b4.mono z3)
        have hT4 := hT3.below b4
        have cv4 := hcv w4 hb4
        go_wp2_with fail
        refine (kN _ hT4).mono ?_
        rintro e w5 ⟨⟨v5, rfl, h5⟩, b5⟩
        have z5 := b5.size
        have hT5 := hT4.below b5
        go_wp2_with fail
        refine (named_any s (by omega) _ hT5).mono ?_
        rintro e w6 ⟨⟨v6, rfl, h6⟩, b6⟩
        have z6 := b6.size
        go_wp2_with fail
        refine (sameInts_any _ nl nb _ _ _ (h5.below b6) h6).mono ?_
        rintro e w7 ⟨rfl, b7⟩
        go_wp2_with fail
        go_ret
        exact ⟨ret_bool (by simp), hbw.trans ((hb4.mono hws).trans ((b5.mono (by omega)).trans ((b6.mono (by omega)).trans (b7.mono (by omega)))))⟩
end rulesLetters
end Go.Proofs.YtlebikmiophghaaDoor
