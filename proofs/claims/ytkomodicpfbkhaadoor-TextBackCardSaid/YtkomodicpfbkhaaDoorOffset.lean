/-
  text.Offset: it answers a place's offset. Conditions: the two tables of unicode/utf8; at most 100000 bytes.
-/
import Derived.Test.YtkomodicpfbkhaaDoorLeast
namespace Go.Proofs.YtkomodicpfbkhaaDoor
open Go.RowKit Go.Lib

set_option maxHeartbeats 8000000 in
set_option maxRecDepth 100000 in
theorem text_offset_err (s : ByteArray) (hs : s.size ≤ 100000) (L C : Int) (hbad : L < 1 ∨ (nlines s : Int) < L ∨ C < 1) (w : World) (hT : Tabs w) :
    Calls Tryd.prog 19 #[.string s, .agg #[.int .i64 L, .int .i64 C]] w fun e w' => e = .returned (offV s L C) ∧ Below w.heap.size w w' := by
  obtain ⟨i0, hi, hz0, hz1, hz2⟩ := info_parts infoLine
  have HE := Lib.hid (offV_line s L C hbad)
  have hll := linesP_len s
  have hcs : L < 1 ∨ (¬ L < 1 ∧ (nlines s : Int) < L) ∨ (¬ L < 1 ∧ ¬ (nlines s : Int) < L ∧ C < 1) := by omega
  clear hbad
  rcases hcs with h1 | ⟨h1, h2⟩ | ⟨h1, h2, h3⟩
  all_goals
    go_enter Tryd.func19, Tryd.ntmps19
    go_wp2_with fail
    refine (lines_any s (by omega) _).mono ?_
    rintro e w1 ⟨⟨v, rfl, hown⟩, b1⟩
    have hbw : Below w.heap.size w w1 := ((Below.refl _ w).alloc (Nat.le_refl _) (.cells #[.int .i64 L, .int .i64 C] 30)).trans (b1.mono (by simp))
    have z1 : w.heap.size + 1 ≤ w1.heap.size := by have := b1.size; simpa using this
    have kB : w1.heap[w.heap.size]? = some (.cells #[.int .i64 L, .int .i64 C] 30) := by
      rw [b1.block _ (by simp)]; exact heap_alloc_new w _
    have hT1 : Tabs w1 := hT.below hbw
    clear b1
    have zB : (w.alloc (.cells #[.int .i64 L, .int .i64 C] 30)).heap.size = w.heap.size + 1 := by simp
    rw [zB] at hown
    clear zB
    go_wp2_with fail
    refine (behind_any s (by omega) _).mono ?_
    rintro e w3 ⟨rfl, hw3⟩
    subst hw3
    cases hbb : behindB s
    · have hQ : LinesAt w1 v (linesQ s) := by
        have e : linesQ s = linesP s := by unfold linesQ; rw [hbb]; simp
        rw [e]; exact LinesAt.of_owns hown
      obtain ⟨aQ, capQ, rfl, hcQ, hcellQ⟩ := hQ
      have HCQ := Lib.hid hcellQ
      clear hcellQ hown
      have hlen := linesQ_len s
      obtain ⟨p0, p1, _, _⟩ := block_two kB
      go_wp2_with fail
      go_ret2
      exact ⟨by rw [HE.out]; rfl, hbw⟩
    · go_wp2_with (at_builtin; (refine wpList_append_own _ rfl _ _ 54 rfl (w.heap.size + 1) 58 i0 (.agg #[.int .i64 0, .int .i64 0, .int .i64 0]) 3 24 Tryd.underlying54 hi hz0 hz1 hz2 rfl (by decide) _ _ _ rfl (hown.alloc _) ⟨w1.heap.size, 0, none⟩ 1 1 [.int .i64 s.size, .int .i64 s.size, .int .i64 s.size] rfl rfl (new_three' _ _ _ _ _ _ (by simp)) (one_three _ _ _) (by unfold maxLen; omega) (by omega) (by first | omega | (simp; omega)) ?_); intro v' w2 hown' hgrow _; have hown'' : w2.ownsRow (w.heap.size + 1) 58 3 v' (linesQ s).length (lineCells (linesQ s)) := (by have e : linesQ s = linesP s ++ [⟨s.size, s.size, s.size⟩] := (by unfold linesQ; rw [hbb]; rfl); rw [e, lineCells_append, List.length_append]; exact hown'); obtain ⟨aQ, capQ, hv, hcQ, hcellQ⟩ := LinesAt.of_owns hown''; subst hv; have HCQ := Lib.hid hcellQ; have hlen := linesQ_len s; have hbw2 : Below w.heap.size w w2 := (hbw.alloc (by omega) _).grown hgrow (by first | omega | (simp; omega)) (fun kk hk => by have := (ownsRow_lt hown hk).1; omega); have kB2 : w2.heap[w.heap.size]? = some (.cells #[.int .i64 L, .int .i64 C] 30) := (hgrow.block _ (by first | omega | (simp; omega)) (fun e => by have := (ownsRow_lt hown e.symm).1; omega)).trans ((Below.heap_alloc _ _ _ (by omega)).trans kB); have z2 : w.heap.size + 1 ≤ w2.heap.size := (by have := hgrow.size; simp at this; omega); have hT2 : Tabs w2 := hT.below hbw2; obtain ⟨p0, p1, _, _⟩ := block_two kB2; clear hcellQ hown'' hown')
      go_wp2_with fail
      go_ret2
      exact ⟨by rw [HE.out]; rfl, hbw2⟩

set_option maxHeartbeats 8000000 in
set_option maxRecDepth 100000 in
theorem text_offset_main (s : ByteArray) (hs : s.size ≤ 100000) (k m : Nat) (hk : k < nlines s) (w : World) (hT : Tabs w) :
    Calls Tryd.prog 19 #[.string s, .agg #[.int .i64 ((k : Int) + 1), .int .i64 ((m : Int) + 1)]] w fun e w' => e = .returned (offV s ((k : Int) + 1) ((m : Int) + 1)) ∧ Below w.heap.size w w' := by
  obtain ⟨i0, hi, hz0, hz1, hz2⟩ := info_parts infoLine
  have hll := linesP_len s
  have hnl : nlines s ≤ 100001 := by unfold nlines; split <;> omega
  have hlast := lineLast_eq s k hk
  have hPl := lineLast_ge s k
  have hls := lineLast_le s k
  have hRs := posAt_le s (k + 1)
  have hPQ := lineTo_ge s (posAt s k)
  generalize hlastd : lineLast s k = last at *
  generalize hP : posAt s k = P at *
  generalize hQ' : lineTo s P = Q at *
  generalize hR : posAt s (k + 1) = R at *
  have hlastd := hlastd.symm
  have hcend : (Q < R ∧ last = R - 1 ∧ P < R) ∨ (¬ Q < R ∧ last = R) := by
    by_cases hend : Q < R
    · rw [if_pos hend] at hlast; exact .inl ⟨hend, hlast, by omega⟩
    · rw [if_neg hend] at hlast; exact .inr ⟨hend, hlast⟩
  clear hlast
  rcases hcend with ⟨hend, hl, hRp⟩ | ⟨hend, hl⟩
  all_goals
    go_enter Tryd.func19, Tryd.ntmps19
    go_wp2_with fail
    refine (lines_any s (by omega) _).mono ?_
    rintro e w1 ⟨⟨v, rfl, hown⟩, b1⟩
    have hbw : Below w.heap.size w w1 := ((Below.refl _ w).alloc (Nat.le_refl _) (.cells #[.int .i64 ((k : Int) + 1), .int .i64 ((m : Int) + 1)] 30)).trans (b1.mono (by simp))
    have z1 : w.heap.size + 1 ≤ w1.heap.size := by have := b1.size; simpa using this
    have kB : w1.heap[w.heap.size]? = some (.cells #[.int .i64 ((k : Int) + 1), .int .i64 ((m : Int) + 1)] 30) := by
      rw [b1.block _ (by simp)]; exact heap_alloc_new w _
    have hT1 : Tabs w1 := hT.below hbw
    clear b1
    have zB : (w.alloc (.cells #[.int .i64 ((k : Int) + 1), .int .i64 ((m : Int) + 1)] 30)).heap.size = w.heap.size + 1 := by simp
    rw [zB] at hown
    clear zB
    go_wp2_with fail
    refine (behind_any s (by omega) _).mono ?_
    rintro e w3 ⟨rfl, hw3⟩
    subst hw3
    cases hbb : behindB s
    · have hQ : LinesAt w1 v (linesQ s) := by
        have e : linesQ s = linesP s := by unfold linesQ; rw [hbb]; simp
        rw [e]; exact LinesAt.of_owns hown
      obtain ⟨aQ, capQ, rfl, hcQ, hcellQ⟩ := hQ
      have HCQ := Lib.hid hcellQ
      clear hcellQ hown
      have hlen := linesQ_len s
      obtain ⟨p0, p1, _, _⟩ := block_two kB
      have hkl : k < (linesQ s).length := (by omega)
      have hne : linesQ s ≠ [] := (by intro hc; rw [hc] at hkl; simp at hkl)
      obtain ⟨g, hgq, hg, hcell⟩ := HCQ.out hne
      subst hgq
      obtain ⟨c0, c1, c2⟩ := hcell k hkl
      rw [linesQ_get s k hkl] at c0 c1 c2
      dsimp only at c0 c1 c2
      clear hcell HCQ
      rw [hP] at c0 c1
      rw [hQ'] at c1
      rw [hR] at c2
      have i1 : (k : Int) < ((linesQ s).length : Int) := (by omega)
      have i2 : (k : Int) < (nlines s : Int) := (by omega)
      have hN : Below w1.heap.size w1 (w1.alloc (.cells #[.int .i64 (P : Int), .int .i64 (Q : Int), .int .i64 (R : Int)] 58)) := (Below.refl _ w1).alloc (Nat.le_refl _) _
      have lB := heap_alloc_new w1 (.cells #[.int .i64 (P : Int), .int .i64 (Q : Int), .int .i64 (R : Int)] 58)
      obtain ⟨l0, l1, l2, _⟩ := block_three lB
      obtain ⟨x0, x1, _, _⟩ := block_two ((hN.block w.heap.size (by omega)).trans kB)
      have hbx := hbw.trans (hN.mono (by omega))
      have hTx := hT1.below hN
      have zx : w1.heap.size + 1 = (w1.alloc (.cells #[.int .i64 (P : Int), .int .i64 (Q : Int), .int .i64 (R : Int)] 58)).heap.size := (by simp)
      go_wp2_with fail
      generalize (w1.alloc (.cells #[.int .i64 (P : Int), .int .i64 (Q : Int), .int .i64 (R : Int)] 58)) = wl at *
      have hlastv : ((last : Nat) : Int) = (last : Int) := by omega
      go_loopw [9, 10, 11, 12] (fun av cv _ _ wr => ∃ j : Nat, j ≤ m ∧ cv = .int .i64 ((j : Int) + 1) ∧ av = .int .i64 (cpos s P j) ∧ cpos s P j ≤ last ∧ (j = 0 ∨ cpos s P (j - 1) < last) ∧ Below wl.heap.size wl wr) (fun _ cv _ _ _ => s.size + 1 - (RowKit.intOf cv).toNat)
      case atStart => exact ⟨0, Nat.zero_le _, rfl, rfl, hPl, .inl rfl, Below.refl _ _⟩
      case round =>
        obtain ⟨j, hjm, rfl, rfl, hal, hjl, hbr⟩ := hrel
        have zr := hbr.size
        have hge := cpos_ge s P j
        rw [← hbr.cell (p := ⟨w1.heap.size, _, none⟩) (by show w1.heap.size < _; omega)] at l0 l1 l2
        rw [← hbr.cell (p := ⟨w.heap.size, _, none⟩) (by show w.heap.size < _; omega)] at x0 x1
        have hTr := hTx.below hbr
        have hbwr : Below w.heap.size w wr := hbx.trans (hbr.mono (by omega))
        by_cases hjlt : j < m
        · by_cases hover : last ≤ cpos s P j
          · have hno : ¬ OffOk s k m := by
              unfold OffOk
              rw [hP, ← hlastd]
              have := cpos_mono s P j (m - 1) (by omega)
              omega
            have HE := Lib.hid (offV_no s k m hno)
            generalize cpos s P j = a at *
            go_wp2_with fail
            go_ret2
            exact ⟨by rw [HE.out]; rfl, hbwr⟩
          · have has : cpos s P j < s.size := by omega
            have HV := Lib.hid (runeV_dec s _ has)
            have HS := Lib.hid (cpos_succ s P j)
            have HLs := Lib.hid (show cpos s P j + (Utf8.decode s (cpos s P j)).2 ≤ last by rw [hlastd]; exact cpos_last s k _ (by rw [← hlastd]; omega))
            have hwd := width_le4 s (cpos s P j)
            have hd1 := decode_le s (cpos s P j)
            generalize ha0 : cpos s P j = a at *
            have HA0 := Lib.hid ha0
            clear ha0
            generalize hr : (Utf8.decode s a).1 = r at *
            generalize hn : (Utf8.decode s a).2 = n at *
            clear hr hn
            go_wp2_with fail
            refine (text_rune_any s (by unfold maxLen; omega) _ _ hTr).mono ?_
            rintro e w5 ⟨rfl, b5⟩
            rw [HV.out]
            go_wp2_with fail
            go_roundw
            case rel =>
              have h1 := HS.out
              have h2 := HLs.out
              refine ⟨j + 1, by omega, by go_num, by rw [h1]; go_num, by rw [h1]; exact h2, .inr (by rw [Nat.add_sub_cancel, HA0.out]; omega), hbr.trans (b5.mono zr)⟩
            case measure => simp [RowKit.intOf]; omega
        · obtain rfl : j = m := by omega
          have hok : OffOk s k j := by
            unfold OffOk
            rw [hP, ← hlastd]; exact hjl
          have HE := Lib.hid (offV_ok s k j hk hok)
          have kl := fun w hT => least_any s hs k j (by omega) hk hok ((j : Int) + 1) rfl w hT
          rw [hP] at kl
          generalize cpos s P j = a at *
          go_wp2_with fail
          refine (kl _ hTr).mono ?_
          rintro e w5 ⟨rfl, b5⟩
          go_wp2_with fail
          go_ret2
          exact ⟨by rw [HE.out]; rfl, hbwr.trans (b5.mono (by omega))⟩
    · go_wp2_with (at_builtin; (refine wpList_append_own _ rfl _ _ 54 rfl (w.heap.size + 1) 58 i0 (.agg #[.int .i64 0, .int .i64 0, .int .i64 0]) 3 24 Tryd.underlying54 hi hz0 hz1 hz2 rfl (by decide) _ _ _ rfl (hown.alloc _) ⟨w1.heap.size, 0, none⟩ 1 1 [.int .i64 s.size, .int .i64 s.size, .int .i64 s.size] rfl rfl (new_three' _ _ _ _ _ _ (by simp)) (one_three _ _ _) (by unfold maxLen; omega) (by omega) (by first | omega | (simp; omega)) ?_); intro v' w2 hown' hgrow _; have hown'' : w2.ownsRow (w.heap.size + 1) 58 3 v' (linesQ s).length (lineCells (linesQ s)) := (by have e : linesQ s = linesP s ++ [⟨s.size, s.size, s.size⟩] := (by unfold linesQ; rw [hbb]; rfl); rw [e, lineCells_append, List.length_append]; exact hown'); obtain ⟨aQ, capQ, hv, hcQ, hcellQ⟩ := LinesAt.of_owns hown''; subst hv; have HCQ := Lib.hid hcellQ; have hlen := linesQ_len s; have hbw2 : Below w.heap.size w w2 := (hbw.alloc (by omega) _).grown hgrow (by first | omega | (simp; omega)) (fun kk hk => by have := (ownsRow_lt hown hk).1; omega); have kB2 : w2.heap[w.heap.size]? = some (.cells #[.int .i64 ((k : Int) + 1), .int .i64 ((m : Int) + 1)] 30) := (hgrow.block _ (by first | omega | (simp; omega)) (fun e => by have := (ownsRow_lt hown e.symm).1; omega)).trans ((Below.heap_alloc _ _ _ (by omega)).trans kB); have z2 : w.heap.size + 1 ≤ w2.heap.size := (by have := hgrow.size; simp at this; omega); have hT2 : Tabs w2 := hT.below hbw2; obtain ⟨p0, p1, _, _⟩ := block_two kB2; clear hcellQ hown'' hown'; have hkl : k < (linesQ s).length := (by omega); have hne : linesQ s ≠ [] := (by intro hc; rw [hc] at hkl; simp at hkl); obtain ⟨g, hgq, hg, hcell⟩ := HCQ.out hne; subst hgq; obtain ⟨c0, c1, c2⟩ := hcell k hkl; rw [linesQ_get s k hkl] at c0 c1 c2; dsimp only at c0 c1 c2; clear hcell HCQ; rw [hP] at c0 c1; rw [hQ'] at c1; rw [hR] at c2; have i1 : (k : Int) < ((linesQ s).length : Int) := (by omega); have i2 : (k : Int) < (nlines s : Int) := (by omega); have hN : Below w2.heap.size w2 (w2.alloc (.cells #[.int .i64 (P : Int), .int .i64 (Q : Int), .int .i64 (R : Int)] 58)) := (Below.refl _ w2).alloc (Nat.le_refl _) _; have lB := heap_alloc_new w2 (.cells #[.int .i64 (P : Int), .int .i64 (Q : Int), .int .i64 (R : Int)] 58); obtain ⟨l0, l1, l2, _⟩ := block_three lB; obtain ⟨x0, x1, _, _⟩ := block_two ((hN.block w.heap.size (by omega)).trans kB2); have hbx := hbw2.trans (hN.mono (by omega)); have hTx := hT2.below hN; have zx : w2.heap.size + 1 = (w2.alloc (.cells #[.int .i64 (P : Int), .int .i64 (Q : Int), .int .i64 (R : Int)] 58)).heap.size := (by simp))
      generalize (w2.alloc (.cells #[.int .i64 (P : Int), .int .i64 (Q : Int), .int .i64 (R : Int)] 58)) = wl at *
      have hlastv : ((last : Nat) : Int) = (last : Int) := by omega
      go_loopw [9, 10, 11, 12] (fun av cv _ _ wr => ∃ j : Nat, j ≤ m ∧ cv = .int .i64 ((j : Int) + 1) ∧ av = .int .i64 (cpos s P j) ∧ cpos s P j ≤ last ∧ (j = 0 ∨ cpos s P (j - 1) < last) ∧ Below wl.heap.size wl wr) (fun _ cv _ _ _ => s.size + 1 - (RowKit.intOf cv).toNat)
      case atStart => exact ⟨0, Nat.zero_le _, rfl, rfl, hPl, .inl rfl, Below.refl _ _⟩
      case round =>
        obtain ⟨j, hjm, rfl, rfl, hal, hjl, hbr⟩ := hrel
        have zr := hbr.size
        have hge := cpos_ge s P j
        rw [← hbr.cell (p := ⟨w2.heap.size, _, none⟩) (by show w2.heap.size < _; omega)] at l0 l1 l2
        rw [← hbr.cell (p := ⟨w.heap.size, _, none⟩) (by show w.heap.size < _; omega)] at x0 x1
        have hTr := hTx.below hbr
        have hbwr : Below w.heap.size w wr := hbx.trans (hbr.mono (by omega))
        by_cases hjlt : j < m
        · by_cases hover : last ≤ cpos s P j
          · have hno : ¬ OffOk s k m := by
              unfold OffOk
              rw [hP, ← hlastd]
              have := cpos_mono s P j (m - 1) (by omega)
              omega
            have HE := Lib.hid (offV_no s k m hno)
            generalize cpos s P j = a at *
            go_wp2_with fail
            go_ret2
            exact ⟨by rw [HE.out]; rfl, hbwr⟩
          · have has : cpos s P j < s.size := by omega
            have HV := Lib.hid (runeV_dec s _ has)
            have HS := Lib.hid (cpos_succ s P j)
            have HLs := Lib.hid (show cpos s P j + (Utf8.decode s (cpos s P j)).2 ≤ last by rw [hlastd]; exact cpos_last s k _ (by rw [← hlastd]; omega))
            have hwd := width_le4 s (cpos s P j)
            have hd1 := decode_le s (cpos s P j)
            generalize ha0 : cpos s P j = a at *
            have HA0 := Lib.hid ha0
            clear ha0
            generalize hr : (Utf8.decode s a).1 = r at *
            generalize hn : (Utf8.decode s a).2 = n at *
            clear hr hn
            go_wp2_with fail
            refine (text_rune_any s (by unfold maxLen; omega) _ _ hTr).mono ?_
            rintro e w5 ⟨rfl, b5⟩
            rw [HV.out]
            go_wp2_with fail
            go_roundw
            case rel =>
              have h1 := HS.out
              have h2 := HLs.out
              refine ⟨j + 1, by omega, by go_num, by rw [h1]; go_num, by rw [h1]; exact h2, .inr (by rw [Nat.add_sub_cancel, HA0.out]; omega), hbr.trans (b5.mono zr)⟩
            case measure => simp [RowKit.intOf]; omega
        · obtain rfl : j = m := by omega
          have hok : OffOk s k j := by
            unfold OffOk
            rw [hP, ← hlastd]; exact hjl
          have HE := Lib.hid (offV_ok s k j hk hok)
          have kl := fun w hT => least_any s hs k j (by omega) hk hok ((j : Int) + 1) rfl w hT
          rw [hP] at kl
          generalize cpos s P j = a at *
          go_wp2_with fail
          refine (kl _ hTr).mono ?_
          rintro e w5 ⟨rfl, b5⟩
          go_wp2_with fail
          go_ret2
          exact ⟨by rw [HE.out]; rfl, hbwr.trans (b5.mono (by omega))⟩
end Go.Proofs.YtkomodicpfbkhaaDoor
