/-
  The walk of ClassTags: it returns true whatever the text. Conditions: the two tables of unicode/utf8; bytealg's variable holds a number.
-/
import Derived.Test.YtkomodicpfbkhaaDoorRefBlock
namespace Go.Proofs.YtkomodicpfbkhaaDoor
open Go.RowKit Go.Lib

theorem upB_nat (b : UInt8) : (upB b).toNat = if 97 ≤ b.toNat ∧ b.toNat ≤ 122 then b.toNat - 32 else b.toNat := by
  unfold upB
  split
  · rename_i h
    rw [UInt8.toNat_sub_of_le _ _ (by rw [UInt8.le_iff_toNat_le]; show 32 ≤ _; omega)]
    rfl
  · rfl
theorem take_up (s : ByteArray) (k : Nat) (hk : k < s.size) : (s.data.toList.take (k + 1)).map upB = (s.data.toList.take k).map upB ++ [upB s[k]] := by
  have h2 : k < s.data.toList.length := by simpa using hk
  rw [List.take_succ_eq_append_getElem h2, List.map_append]; rfl

namespace classTags
set_option maxHeartbeats 8000000 in
set_option maxRecDepth 100000 in
theorem walk (s : ByteArray) (hs : s.size ≤ maxLen) (w : World) (hT : Tabs w) (hM : MLen w) :
    Calls Tryd.prog 10 #[.string s] w fun e w' => e = .returned (.bool true) ∧ Below w.heap.size w w' := by
  have C1 := Lib.hid (show isTag [68, 73, 86] = true by decide +kernel)
  have C2 := Lib.hid (show isTag [115, 112, 97, 110] = false by decide +kernel)
  obtain ⟨i0, hi, hz0, hz1, hz2⟩ := info_parts infoByte
  unfold maxLen at hs
  by_cases hbig : 1000 < s.size
  · go_enter Tryd.func10, Tryd.ntmps10
    go_wp2_with fail
    refine (block_any _ (by decide) _ hT hM).mono ?_
    rintro e w1 ⟨rfl, b1⟩
    rw [C1.out]
    go_wp2_with fail
    refine (block_any _ (by decide) _ (hT.below b1) (hM.below b1)).mono ?_
    rintro e w2 ⟨rfl, b2⟩
    rw [C2.out]
    go_wp2_with fail
    go_ret
    exact ⟨rfl, b1.trans (b2.mono b1.size)⟩
  · have hsl := ba_len s
    go_enter Tryd.func10, Tryd.ntmps10
    go_wp2_with fail
    refine (block_any _ (by decide) _ hT hM).mono ?_
    rintro e w1 ⟨rfl, b1⟩
    rw [C1.out]
    have z1 := b1.size
    go_wp2_with fail
    refine (block_any _ (by decide) _ (hT.below b1) (hM.below b1)).mono ?_
    rintro e w2 ⟨rfl, b2⟩
    rw [C2.out]
    have z2 := b2.size
    have hb2 : Below w.heap.size w w2 := b1.trans (b2.mono z1)
    go_wp2_with fail
    go_loopw [3, 4, 5] (fun uv iv _ wr => ∃ (k g cap : Nat), k ≤ s.size ∧ uv = .slice (some ⟨g, 0, none⟩) k cap ∧ iv = .int .i64 k ∧ wr.ownsRow w.heap.size 5 1 (.slice (some ⟨g, 0, none⟩) k cap) k (byteCells ((s.data.toList.take k).map upB)) ∧ Below w.heap.size w wr) (fun _ iv _ _ => s.size - (RowKit.intOf iv).toNat)
    case atStart =>
      exact ⟨0, w2.heap.size, 0, Nat.zero_le _, rfl, rfl, ⟨rfl, .inr ⟨w2.heap.size, 0, #[], rfl, by omega, heap_alloc_new w2 _, Nat.le_refl _, by decide, rfl, rfl⟩⟩, hb2.alloc (by omega) _⟩
    case round =>
      obtain ⟨k, g, cap, hk, rfl, rfl, hown, hbw⟩ := hrel
      have hws := hbw.size
      by_cases hks : k < s.size
      · have HT := Lib.hid (take_up s k hks)
        have hb := (s[k]).toNat_lt
        have hvl := upB_nat s[k]
        by_cases hup : 97 ≤ (s[k]).toNat ∧ (s[k]).toNat ≤ 122
        · rw [if_pos hup] at hvl
          have HV := Lib.hid (show ((upB s[k]).toNat : Int) = (s[k].toNat : Int) - 32 by omega)
          obtain ⟨u1, u2⟩ := hup
          clear hvl
          go_wp2_with (at_builtin; (refine wpList_append_own _ rfl _ _ 37 rfl w.heap.size 5 i0 (.int .u8 0) 1 1 Tryd.underlying37 hi hz0 hz1 hz2 rfl (by decide) _ _ _ rfl (hown.alloc _) ⟨wr.heap.size, 0, none⟩ 1 1 [.int .u8 ((s[k].toNat : Int) - 32)] rfl rfl (new_one _ _ _) (by simp [Value.oneCell']) (by unfold maxLen; omega) (by omega) (by simp; omega) ?_); intro v' w2 hown' hgrow _; obtain ⟨g', cap', hv⟩ := owns_form hown' (by omega); subst hv)
          have hbx : Below w.heap.size w w2 := (hbw.alloc (by omega) _).grown hgrow (by simp; omega) (fun kk hk => (ownsRow_lt (hown.alloc (.cells #[.int .u8 ((s[k].toNat : Int) - 32)] 5)) hk).1)
          go_roundw
          case rel =>
            refine ⟨k + 1, g', cap', by omega, rfl, by go_num, ?_, hbx⟩
            rw [HT.out, byteCells_append]
            simpa [byteCells, HV.out] using hown'
          case measure => simp [RowKit.intOf]; omega
        · rw [if_neg hup] at hvl
          have HV := Lib.hid (show ((upB s[k]).toNat : Int) = (s[k].toNat : Int) by omega)
          have hcs : (s[k]).toNat < 97 ∨ (¬ (s[k]).toNat < 97 ∧ 122 < (s[k]).toNat) := by omega
          clear hvl hup
          rcases hcs with u1 | ⟨u1, u2⟩
          all_goals
            go_wp2_with (at_builtin; (refine wpList_append_own _ rfl _ _ 37 rfl w.heap.size 5 i0 (.int .u8 0) 1 1 Tryd.underlying37 hi hz0 hz1 hz2 rfl (by decide) _ _ _ rfl (hown.alloc _) ⟨wr.heap.size, 0, none⟩ 1 1 [.int .u8 (s[k].toNat : Int)] rfl rfl (new_one _ _ _) (by simp [Value.oneCell']) (by unfold maxLen; omega) (by omega) (by simp; omega) ?_); intro v' w2 hown' hgrow _; obtain ⟨g', cap', hv⟩ := owns_form hown' (by omega); subst hv)
            have hbx : Below w.heap.size w w2 := (hbw.alloc (by omega) _).grown hgrow (by simp; omega) (fun kk hk => (ownsRow_lt (hown.alloc (.cells #[.int .u8 (s[k].toNat : Int)] 5)) hk).1)
            go_roundw
            case rel =>
              refine ⟨k + 1, g', cap', by omega, rfl, by go_num, ?_, hbx⟩
              rw [HT.out, byteCells_append]
              simpa [byteCells, HV.out] using hown'
            case measure => simp [RowKit.intOf]; omega
      · obtain rfl : k = s.size := by omega
        have htk : s.data.toList.take s.size = s.data.toList := List.take_of_length_le (by omega)
        rw [htk] at hown
        have HU := Lib.hid (isTag_up s.data.toList)
        have hul : (s.data.toList.map upB).length = s.size := by rw [List.length_map, hsl]
        generalize s.data.toList.map upB = up at *
        have hTr := hT.below hbw
        have hMr := hM.below hbw
        go_wp2_with fail
        refine (block_any s (by omega) _ hTr hMr).mono ?_
        rintro e w3 ⟨rfl, b3⟩
        have z3 := b3.size
        go_wp2_with fail
        refine (ref_block_any s (by omega) _).mono ?_
        rintro e w4 ⟨rfl, b4⟩
        have z4 := b4.size
        have hb4 : Below wr.heap.size wr w4 := b3.trans (b4.mono z3)
        have hown4 := ownsRow_below hown hb4
        have hcv := run_convert_bytes_arg (P := Tryd.prog) w4 37 5 Tryd.underlying37 Tryd.underlying5 g 0 s.size cap (up.map fun b => (b.toNat : Int)) (by simpa using hul) (by
          intro i hi
          have := hown4.cellAt i (by omega)
          rw [Nat.zero_add, this]
          simp [byteCells, List.getD, List.getElem?_eq_getElem (show i < up.length by omega)]) 9 Tryd.underlying9
        rw [strOfNums_bytes] at hcv
        have kU := fun w hT hM => block_any ⟨up.toArray⟩ (by rw [ba_size]; omega) w hT hM
        rw [ba_list, HU.out] at kU
        have hw4 : Below w.heap.size w w4 := hbw.trans (hb4.mono hws)
        go_wp2_with fail
        refine (kU _ (hTr.below hb4) (hMr.below hb4)).mono ?_
        rintro e w5 ⟨rfl, b5⟩
        have z5 := b5.size
        go_wp2_with fail
        refine (block_any s (by omega) _ ((hTr.below hb4).below b5) ((hMr.below hb4).below b5)).mono ?_
        rintro e w6 ⟨rfl, b6⟩
        go_wp2_with fail
        go_ret
        exact ⟨ret_bool (by simp), hw4.trans ((b5.mono (by omega)).trans (b6.mono (by omega)))⟩
end classTags
end Go.Proofs.YtkomodicpfbkhaaDoor
