/-
  The reference's Block: it answers whether a text is a block tag. Conditions: a text of at most 10000000 bytes.
-/
import Derived.Test.YtkomodicpfbkhaaDoorTagsW
import Derived.Test.YtkomodicpfbkhaaDoorLit
import Derived.Test.YtkomodicpfbkhaaDoorRefFold
import Derived.BigQuiet
namespace Go.Proofs.YtkomodicpfbkhaaDoor
open Go.RowKit Go.Lib

def tagVals : Array Value := (tagsW.map fun p => Value.string ⟨p.toArray⟩).toArray
def tagParts : Array (Nat × Operand) := (tagsW.zipIdx.map fun p => (p.2, Operand.const (.string ⟨p.1.toArray⟩))).toArray
theorem build_tags (a : Act) (w : World) : (Instr.build 62 (tagParts.map fun (i, x) => (i, a.eval x))).run Tryd.prog w = .ok (.agg tagVals) w := by kernel_rfl
theorem alloc_tags (w : World) : (Instr.alloc 62 true (.tuple #[])).run Tryd.prog w = .ok (.pointer (some ⟨w.heap.size, 0, none⟩)) (w.alloc (.cells (Array.replicate 52 (.string ⟨#[]⟩)) 62)) := by kernel_rfl
theorem info_tags : (Tryd.prog.info? 62).map (·.size) = some tagVals.size := by kernel_rfl

theorem take_low (s : ByteArray) (k : Nat) (hk : k < s.size) : (s.data.toList.take (k + 1)).map lowB = (s.data.toList.take k).map lowB ++ [lowB s[k]] := by
  have h2 : k < s.data.toList.length := by simpa using hk
  rw [List.take_succ_eq_append_getElem h2, List.map_append]; rfl

set_option maxHeartbeats 8000000 in
set_option maxRecDepth 100000 in
theorem ref_block_any (s : ByteArray) (hs : s.size ≤ 10000000) (w : World) : Calls Tryd.prog 22 #[.string s] w fun e w' => e = .returned (.bool (isTag s.data.toList)) ∧ Below w.heap.size w w' := by
  obtain ⟨i0, hi, hz0, hz1, hz2⟩ := info_parts infoByte
  have hlen := tagsW_len
  have hsl := ba_len s
  go_enter Tryd.func22, Tryd.ntmps22
  go_wp2_with (refine wpList_arrayLit 62 8 3 tagParts (Array.replicate 52 (.string ⟨#[]⟩)) tagVals _ _ _ rfl build_tags alloc_tags info_tags (by kernel_rfl) (by kernel_rfl) 50 rfl rfl ?_; simp only [List.drop_succ_cons, List.drop_zero])
  have zA : (w.alloc (.cells tagVals 62)).heap.size = w.heap.size + 1 := by simp
  have hA := heap_alloc_new w (.cells tagVals 62)
  have hAw : Below w.heap.size w (w.alloc (.cells tagVals 62)) := (Below.refl _ w).alloc (Nat.le_refl _) _
  go_loopw [4, 5, 6] (fun lv iv _ wr => ∃ (k g cap : Nat), k ≤ s.size ∧ k ≤ 20 ∧ lv = .slice (some ⟨g, 0, none⟩) k cap ∧ iv = .int .i64 k ∧ wr.ownsRow (w.heap.size + 1) 5 1 (.slice (some ⟨g, 0, none⟩) k cap) k (byteCells ((s.data.toList.take k).map lowB)) ∧ Below (w.heap.size + 1) (w.alloc (.cells tagVals 62)) wr ∧ w.heap.size + 2 ≤ wr.heap.size) (fun _ iv _ _ => s.size - (RowKit.intOf iv).toNat)
  case atStart =>
    refine ⟨0, w.heap.size + 1, 0, Nat.zero_le _, Nat.zero_le _, rfl, rfl, ⟨rfl, .inr ⟨w.heap.size + 1, 0, #[], rfl, Nat.le_refl _, ?_, Nat.le_refl _, by decide, rfl, rfl⟩⟩, (Below.refl _ _).alloc (by rw [zA]; exact Nat.le_refl _) _, by simp⟩
    have := heap_alloc_new (w.alloc (.cells tagVals 62)) (.cells #[] 5)
    rw [zA] at this; exact this
  case round =>
    obtain ⟨k, g, cap, hk, hk20, rfl, rfl, hown, hbw, hws⟩ := hrel
    by_cases hgo : k < s.size ∧ k < 20
    · obtain ⟨hks, hk2⟩ := hgo
      have HT := Lib.hid (take_low s k hks)
      have hb := (s[k]).toNat_lt
      have hvl := lowB_nat s[k]
      by_cases hup : 65 ≤ (s[k]).toNat ∧ (s[k]).toNat ≤ 90
      · rw [if_pos hup] at hvl
        have HV := Lib.hid hvl
        obtain ⟨u1, u2⟩ := hup
        clear hvl
        go_wp2_with (at_builtin; (refine wpList_append_own _ rfl _ _ 37 rfl (w.heap.size + 1) 5 i0 (.int .u8 0) 1 1 Tryd.underlying37 hi hz0 hz1 hz2 rfl (by decide) _ _ _ rfl (hown.alloc _) ⟨wr.heap.size, 0, none⟩ 1 1 [.int .u8 ((s[k].toNat : Int) + 32)] rfl rfl (new_one _ _ _) (by simp [Value.oneCell']) (by unfold maxLen; omega) (by omega) (by simp; omega) ?_); intro v' w2 hown' hgrow _; obtain ⟨g', cap', hv⟩ := owns_form hown' (by omega); subst hv)
        have hsz2 : wr.heap.size + 1 ≤ w2.heap.size := by have := hgrow.size; simpa using this
        have hb2 : Below (w.heap.size + 1) (w.alloc (.cells tagVals 62)) w2 := (hbw.alloc (by omega) _).grown hgrow (by simp; omega) (fun kk hk => (ownsRow_lt (hown.alloc (.cells #[.int .u8 ((s[k].toNat : Int) + 32)] 5)) hk).1)
        go_roundw
        case rel =>
          refine ⟨k + 1, g', cap', by omega, by omega, rfl, by go_num, ?_, hb2, by omega⟩
          rw [HT.out, byteCells_append]
          simpa [byteCells, HV.out] using hown'
        case measure => simp [RowKit.intOf]; omega
      · rw [if_neg hup] at hvl
        have HV := Lib.hid hvl
        have hcs : (s[k]).toNat < 65 ∨ (¬ (s[k]).toNat < 65 ∧ 90 < (s[k]).toNat) := by omega
        clear hvl hup
        rcases hcs with u1 | ⟨u1, u2⟩
        all_goals
          go_wp2_with (at_builtin; (refine wpList_append_own _ rfl _ _ 37 rfl (w.heap.size + 1) 5 i0 (.int .u8 0) 1 1 Tryd.underlying37 hi hz0 hz1 hz2 rfl (by decide) _ _ _ rfl (hown.alloc _) ⟨wr.heap.size, 0, none⟩ 1 1 [.int .u8 (s[k].toNat : Int)] rfl rfl (new_one _ _ _) (by simp [Value.oneCell']) (by unfold maxLen; omega) (by omega) (by simp; omega) ?_); intro v' w2 hown' hgrow _; obtain ⟨g', cap', hv⟩ := owns_form hown' (by omega); subst hv)
          have hsz2 : wr.heap.size + 1 ≤ w2.heap.size := by have := hgrow.size; simpa using this
          have hb2 : Below (w.heap.size + 1) (w.alloc (.cells tagVals 62)) w2 := (hbw.alloc (by omega) _).grown hgrow (by simp; omega) (fun kk hk => (ownsRow_lt (hown.alloc (.cells #[.int .u8 (s[k].toNat : Int)] 5)) hk).1)
          go_roundw
          case rel =>
            refine ⟨k + 1, g', cap', by omega, by omega, rfl, by go_num, ?_, hb2, by omega⟩
            rw [HT.out, byteCells_append]
            simpa [byteCells, HV.out] using hown'
          case measure => simp [RowKit.intOf]; omega
    · have hstop : s.size ≤ k ∨ (¬ s.size ≤ k ∧ 20 ≤ k) := by omega
      have hl20 : (s.data.toList.take k).map lowB = (s.data.toList.take 20).map lowB := by
        by_cases h : k = 20
        · rw [h]
        · rw [List.take_of_length_le (by omega), List.take_of_length_le (by omega)]
      rw [hl20] at hown
      have HLW := Lib.hid (show s.size < 20 → (s.data.toList.take 20).map lowB = s.data.toList.map lowB from fun h => by rw [List.take_of_length_le (by omega)])
      have HLEN := Lib.hid (isTag_long s.data.toList)
      have hlw : ((s.data.toList.take 20).map lowB).length = k := by rw [← hl20, List.length_map, List.length_take]; omega
      generalize (s.data.toList.take 20).map lowB = lw at *
      have hkB : ∀ wx, Below wr.heap.size wr wx → wx.heap[w.heap.size]? = some (.cells tagVals 62) := fun wx hx => by
        rw [hx.block _ (by omega), hbw.block _ (by omega)]; exact hA
      have hbww : Below w.heap.size w wr := hAw.trans (hbw.mono (by omega))
      have hownx : ∀ wx, Below wr.heap.size wr wx → wx.ownsRow (w.heap.size + 1) 5 1 (.slice (some ⟨g, 0, none⟩) k cap) k (byteCells lw) := fun wx hx => ownsRow_below hown hx
      clear hl20 hown
      rcases hstop with h1 | ⟨h1, h2⟩
      all_goals
        go_wp2
        go_loopw [7] (fun jv wx => ∃ j : Nat, j ≤ 52 ∧ jv = .int .i64 j ∧ Below wr.heap.size wr wx ∧ RowKit.Hid (s.size < 20 → ∀ (t : Nat) (ht : t < tagsW.length), t < j → tagsW[t] ≠ lw)) (fun jv _ => 52 - (RowKit.intOf jv).toNat)
        case atStart => exact ⟨0, Nat.zero_le _, rfl, Below.refl _ _, Lib.hid (fun _ t _ h => absurd h (Nat.not_lt_zero _))⟩
        case round =>
          obtain ⟨j, hj, rfl, hbx, HI⟩ := hrel
          have hblk := hkB _ hbx
          have hownj := hownx _ hbx
          by_cases hj52 : j < 52
          · have hjl : j < tagsW.length := by omega
            have c1 : wr.cell? ⟨w.heap.size, j, none⟩ = some (.string ⟨tagsW[j].toArray⟩) := by
              simp [World.cell?, hblk, tagVals, List.getElem?_eq_getElem hjl]
            have hcv : ∀ n dst, Tryd.prog.underlying dst = some .string → (convert 37 dst (.slice (some ⟨g, 0, none⟩) k cap)).run Tryd.prog (wr.drewN n) = .ok (.string ⟨lw.toArray⟩) (wr.drewN n) := fun n => by
              have h := run_convert_bytes_arg (P := Tryd.prog) (wr.drewN n) 37 5 Tryd.underlying37 Tryd.underlying5 g 0 k cap (lw.map fun b => (b.toNat : Int)) (by simpa using hlw) (by
                intro i hi
                have := hownj.cellAt i (by omega)
                rw [Nat.zero_add]
                show wr.cell? _ = _
                rw [this]
                simp [byteCells, List.getD, List.getElem?_eq_getElem (show i < lw.length by omega)])
              rw [strOfNums_bytes] at h
              exact h
            have hcv2 := fun n => hcv n 9 Tryd.underlying9
            clear hcv
            have i1 : (j : Int) < 52 := by omega
            clear hblk hownj
            by_cases hm : tagsW[j] = lw ∧ s.size < 20
            · obtain ⟨hm1, hm2⟩ := hm
              have HR := Lib.hid (show isTag s.data.toList = true by
                unfold isTag
                rw [decide_eq_true_eq, ← HLW.out hm2, ← hm1]
                exact List.getElem_mem hjl)
              have e1 : (tagsW[j] == lw) = true := by simp [hm1]
              clear hm1
              generalize tagsW[j] = tj at *
              go_wp2
              go_quiet (fail)
              go_wp2
              all_goals
                go_ret
                exact ⟨by rw [HR.out]; rfl, hbww.trans (below_drewN (hbx.mono (by omega)))⟩
            · have HN := Lib.hid hm
              have hmc : (tagsW[j] == lw) = false ∨ ((tagsW[j] == lw) = true ∧ ¬ s.size < 20) := by
                by_cases h : tagsW[j] = lw
                · exact .inr ⟨by simp [h], fun h2 => hm ⟨h, h2⟩⟩
                · exact .inl (by simp [h])
              have HI2 := Lib.hid (show s.size < 20 → ∀ (t : Nat) (ht : t < tagsW.length), t < j + 1 → tagsW[t] ≠ lw from fun h t ht htj => by
                by_cases hte : t = j
                · subst hte; exact fun hc => hm ⟨hc, h⟩
                · exact HI.out h t ht (by omega))
              clear hm HN HI
              generalize tagsW[j] = tj at *
              rcases hmc with e1 | ⟨e1, e2⟩
              all_goals
                go_wp2
                go_quiet (fail)
                have hbx := below_drewN (n := nq) hbx
                go_wp2
                go_roundw
                case rel => exact ⟨j + 1, by omega, by go_num, hbx, HI2⟩
                case measure => simp [RowKit.intOf]; omega
          · obtain rfl : j = 52 := by omega
            have HR := Lib.hid (show isTag s.data.toList = false by
              by_cases h20 : s.size < 20
              · unfold isTag
                rw [decide_eq_false_iff_not, ← HLW.out h20]
                intro hc
                obtain ⟨t, ht, hte⟩ := List.getElem_of_mem hc
                exact HI.out h20 t ht (by omega) hte
              · exact HLEN.out (by omega))
            go_wp2
            go_ret
            exact ⟨by rw [HR.out]; rfl, hbww.trans (hbx.mono (by omega))⟩
end Go.Proofs.YtkomodicpfbkhaaDoor
