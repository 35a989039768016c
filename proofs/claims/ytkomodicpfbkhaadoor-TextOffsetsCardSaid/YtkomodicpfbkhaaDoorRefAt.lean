/-
  The reference's At: it answers what text.At does. Conditions: at most 100000 bytes.
-/
import Derived.Test.YtkomodicpfbkhaaDoorPlaceAt
namespace Go.Proofs.YtkomodicpfbkhaaDoor
open Go.RowKit Go.Lib

theorem set_first {w : World} {L : Nat} {a b x : Value} {T : TypeId} (h : w.heap[L]? = some (.cells #[a, b] T)) : (w.setCell ⟨L, 0, none⟩ x).heap[L]? = some (.cells #[x, b] T) := by
  simp [World.setCell, Array.getElem?_modify, h]
/-- A line that isn't the last one has an end. -/
theorem inner_ended (s : ByteArray) (k : Nat) (h : k + 1 < (linesP s).length) : lineTo s (posAt s k) < posAt s (k + 1) := by
  have h1 := (posAt_len s (k + 1)).1 h
  have h0 := (posAt_len s k).1 (by omega)
  have e : posAt s (k + 1) = lineEnd s (lineTo s (posAt s k)) := by rw [posAt_succ, if_pos h0]
  have hge := lineEnd_ge s (lineTo s (posAt s k))
  have hq : lineTo s (posAt s k) < s.size := by omega
  have := lineEnd_gt s _ hq
  omega

set_option maxHeartbeats 16000000 in
set_option maxRecDepth 100000 in
theorem ref_at_any (s : ByteArray) (hs : s.size ≤ 100000) (o : Int) (w : World) : Calls Tryd.prog 18 #[.string s, .int .i64 o] w fun e w' => e = .returned (atV s o) ∧ Below w.heap.size w w' := by
  have HW := Lib.hid (atV_out s o)
  by_cases h0 : o < 0
  · have HQ := Lib.hid (HW.out (.inl h0))
    go_enter Tryd.func18, Tryd.ntmps18
    go_wp2_with fail
    (try simp only [Exit.inBlock, Exit.then])
    refine bodyPost_ret (v := .tuple #[.agg #[.int .i64 0, .int .i64 0], .int .i64 11]) (by rw [results_cell_tmp rfl]; go_simp) rfl ⟨by rw [HQ.out], (Below.refl _ w).alloc (Nat.le_refl _) _⟩
  · by_cases h1 : (s.size : Int) < o
    · have HQ := Lib.hid (HW.out (.inr h1))
      go_enter Tryd.func18, Tryd.ntmps18
      go_wp2_with fail
      (try simp only [Exit.inBlock, Exit.then])
      refine bodyPost_ret (v := .tuple #[.agg #[.int .i64 0, .int .i64 0], .int .i64 11]) (by rw [results_cell_tmp rfl]; go_simp) rfl ⟨by rw [HQ.out], (Below.refl _ w).alloc (Nat.le_refl _) _⟩
    · clear HW
      obtain ⟨n, rfl⟩ : ∃ n : Nat, o = n := ⟨o.toNat, by omega⟩
      have hn : n ≤ s.size := by omega
      have HA := Lib.hid (atV_in s n hn)
      have HB := Lib.hid (show begP s n ≤ s.size by
        unfold begP; split
        · omega
        · exact posAt_le s _)
      go_enter Tryd.func18, Tryd.ntmps18
      go_wp2_with fail
      refine (ref_lines_any s (by omega) _).mono ?_
      rintro e w1 ⟨⟨v, rfl, hown⟩, b1⟩
      obtain ⟨aY, cap, rfl, hcap, hcell⟩ := LinesAt.of_owns hown
      clear hown
      have HC := Lib.hid hcell
      clear hcell
      have hbw1 : Below w.heap.size w w1 := ((Below.refl _ w).alloc (Nat.le_refl _) (.cells #[.int .i64 0, .int .i64 0] 30)).trans (b1.mono (by simp))
      have z1 : w.heap.size + 1 ≤ w1.heap.size := by have := b1.size; simpa using this
      have k1 : w1.heap[w.heap.size]? = some (.cells #[.int .i64 0, .int .i64 0] 30) := by
        rw [b1.block _ (by simp)]; exact heap_alloc_new w _
      clear b1
      have hN : Below w1.heap.size w1 (w1.alloc (.cells #[.int .i64 1, .int .i64 1] 30)) := (Below.refl _ w1).alloc (Nat.le_refl _) _
      have hN0 := heap_alloc_new w1 (.cells #[.int .i64 1, .int .i64 1] 30)
      have hlen := linesP_len s
      have HEND := Lib.hid (posAt_end s)
      go_wp2_with fail
      go_loopw [8, 9, 10] (fun fv iv _ wr => ∃ (i ln fr : Nat), i ≤ (linesP s).length ∧ iv = .int .i64 i ∧ fv = .int .i64 fr ∧ wr.heap[w1.heap.size]? = some (.cells #[.int .i64 ln, .int .i64 1] 30) ∧ Below w1.heap.size w1 wr ∧ Below w.heap.size w wr ∧
        ((i < (linesP s).length ∧ posAt s i ≤ n) ∨ ((i = (linesP s).length ∨ n < posAt s i) ∧ ln = lineP s n ∧ fr = begP s n))) (fun _ iv _ _ => (linesP s).length - (RowKit.intOf iv).toNat)
      case atStart =>
        refine ⟨0, 1, 0, Nat.zero_le _, rfl, rfl, hN0, hN, hbw1.trans (hN.mono (by omega)), ?_⟩
        by_cases hl : 0 < (linesP s).length
        · exact .inl ⟨hl, Nat.zero_le _⟩
        · have he : (linesP s).length = 0 := by omega
          have hz : s.size = 0 := by
            have := HEND.out
            rw [he] at this; exact this.symm
          have hb : behindB s = true := by unfold behindB; rw [decide_eq_true hz]; rfl
          obtain ⟨e1, e2, _⟩ := place_behind s n (by omega) hb
          exact .inr ⟨.inl he.symm, by rw [e1, he], by rw [e2, hz]⟩
      case round =>
        obtain ⟨i, ln, fr, hi, rfl, rfl, hblk, hb1, hbw, hst⟩ := hrel
        have HST := Lib.hid hst
        clear hst
        have zr := hb1.size
        by_cases hil : i < (linesP s).length
        · have hne : linesP s ≠ [] := by intro hc; rw [hc] at hil; simp at hil
          obtain ⟨g, rfl, hg, hcell⟩ := HC.out hne
          have hcell2 : ∀ wx, Below w1.heap.size w1 wx → wx.cell? ⟨g, i * 3, none⟩ = some (.int .i64 (posAt s i)) ∧ wx.cell? ⟨g, i * 3 + 1, none⟩ = some (.int .i64 (lineTo s (posAt s i))) ∧ wx.cell? ⟨g, i * 3 + 2, none⟩ = some (.int .i64 (posAt s (i + 1))) := by
            intro wx hx
            rw [hx.cell (p := ⟨g, i * 3, none⟩) hg, hx.cell (p := ⟨g, i * 3 + 1, none⟩) hg, hx.cell (p := ⟨g, i * 3 + 2, none⟩) hg]
            obtain ⟨e1, e2, e3⟩ := hcell i hil
            rw [e1, e2, e3, (posAt_line s i hil).2]
            exact ⟨rfl, rfl, rfl⟩
          obtain ⟨c0, c1, c2⟩ := hcell2 wr hb1
          obtain ⟨q0, q1, q2, q3⟩ := block_two hblk
          have hle1 := posAt_le s (i + 1)
          have hlt1 := posAt_lt s i (posAt_line s i hil).1
          have HLE := Lib.hid (last_ended s i)
          have HIE := Lib.hid (inner_ended s i)
          have HIN := Lib.hid (place_in s n i hn)
          have HPB := Lib.hid (place_behind s n)
          have HEN := HEND.out
          have HE1 : i + 1 = (linesP s).length → posAt s (i + 1) = s.size := fun h => by rw [h]; exact HEN
          have i1 : (i : Int) < ((linesP s).length : Int) := by omega
          have hls : (linesP s).length ≤ 100000 := by omega
          have hInL : posAt s i ≤ n → (n < posAt s (i + 1) ∨ (n = s.size ∧ i + 1 = (linesP s).length)) → InLine s n i := fun a b => ⟨hil, a, b⟩
          have HInL := Lib.hid hInL
          clear hcell hInL HEN HC HEND
          generalize hL : (linesP s).length = len at *
          generalize hpi : posAt s i = p at *
          generalize hqi : lineTo s p = q at *
          generalize hri : posAt s (i + 1) = r at *
          by_cases hpn : p ≤ n
          · by_cases hnr : n < r
            · have m0 : decide (q < r) = true ∨ decide (q < r) = false := by cases decide (q < r) <;> simp
              have e1 : ((n : Int) == (s.size : Int)) = false := by simp; omega
              have hfin := HIN.out (by omega) (HInL.out hpn (.inl hnr))
              go_wp2
              go_quiet (fail)
              have hbw := below_drewN (n := nq) hbw
              have hb1 := below_drewN (n := nq) hb1
              have hblk : (wr.drewN nq).heap[w1.heap.size]? = some (.cells #[.int .i64 ln, .int .i64 1] 30) := hblk
              generalize wr.drewN nq = wr2 at hbw hb1 hblk ⊢
              clear c0 c1 c2 q0 q1 q2 q3
              obtain ⟨c0, c1, c2⟩ := hcell2 wr2 hb1
              obtain ⟨q0, q1, q2, q3⟩ := block_two hblk
              have hset : (wr2.setCell ⟨w1.heap.size, 0, none⟩ (.int .i64 ((i : Int) + 1))).heap[w1.heap.size]? = some (.cells #[.int .i64 ((i : Int) + 1), .int .i64 1] 30) := set_first hblk
              have hbs : Below w1.heap.size w1 (wr2.setCell ⟨w1.heap.size, 0, none⟩ (.int .i64 ((i : Int) + 1))) := hb1.setCell (Nat.le_refl _) _
              have hbS : Below w.heap.size w (wr2.setCell ⟨w1.heap.size, 0, none⟩ (.int .i64 ((i : Int) + 1))) := hbw.setCell (by show w.heap.size ≤ w1.heap.size; omega) _
              obtain ⟨d0, d1, d2⟩ := hcell2 _ hbs
              go_wp2
              go_roundw
              case rel => exact ⟨i + 1, i + 1, p, by omega, by go_num, rfl, hset, hbs, hbS, .inr ⟨.inr (by rw [hri]; omega), hfin.1.symm, hfin.2.symm⟩⟩
              case measure => simp [RowKit.intOf]; omega
            · by_cases hlast : i + 1 = len
              · have HR := Lib.hid (HE1 hlast)
                have HNS := Lib.hid (show n = s.size by have := HE1 hlast; omega)
                have hE := HLE.out hlast
                have HBE := Lib.hid hE
                clear hE
                have HLS := Lib.hid hlast
                have e1 : ((n : Int) == (s.size : Int)) = true := by have := HNS.out; simp; omega
                have e2 : ((n : Int) == (r : Int)) = true := by have := HNS.out; have := HR.out; simp; omega
                have e3 : ((i : Int) == (len : Int) - 1) = true := by simp; omega
                have x1 : decide ((n : Int) < (r : Int)) = false := decide_eq_false (by omega)
                have x2 : decide (n < r) = false := decide_eq_false (by omega)
                have hrn : r ≤ n := by omega
                clear HE1 hlast
                cases hb : behindB s
                · have hE := (HBE.out.symm.trans hb)
                  have hfin := HIN.out (by rw [hb]; simp) (HInL.out hpn (.inr ⟨HNS.out, HLS.out⟩))
                  go_wp2
                  go_quiet (fail)
                  have hbw := below_drewN (n := nq) hbw
                  have hb1 := below_drewN (n := nq) hb1
                  have hblk : (wr.drewN nq).heap[w1.heap.size]? = some (.cells #[.int .i64 ln, .int .i64 1] 30) := hblk
                  generalize wr.drewN nq = wr2 at hbw hb1 hblk ⊢
                  clear c0 c1 c2 q0 q1 q2 q3
                  obtain ⟨c0, c1, c2⟩ := hcell2 wr2 hb1
                  obtain ⟨q0, q1, q2, q3⟩ := block_two hblk
                  have hset : (wr2.setCell ⟨w1.heap.size, 0, none⟩ (.int .i64 ((i : Int) + 1))).heap[w1.heap.size]? = some (.cells #[.int .i64 ((i : Int) + 1), .int .i64 1] 30) := set_first hblk
                  have hbs : Below w1.heap.size w1 (wr2.setCell ⟨w1.heap.size, 0, none⟩ (.int .i64 ((i : Int) + 1))) := hb1.setCell (Nat.le_refl _) _
                  have hbS : Below w.heap.size w (wr2.setCell ⟨w1.heap.size, 0, none⟩ (.int .i64 ((i : Int) + 1))) := hbw.setCell (by show w.heap.size ≤ w1.heap.size; omega) _
                  obtain ⟨d0, d1, d2⟩ := hcell2 _ hbs
                  go_wp2
                  go_roundw
                  case rel => exact ⟨i + 1, i + 1, p, by omega, by go_num, rfl, hset, hbs, hbS, .inr ⟨.inl HLS.out, hfin.1.symm, hfin.2.symm⟩⟩
                  case measure => simp [RowKit.intOf]; omega
                · have hE := (HBE.out.symm.trans hb)
                  have hfin := HPB.out HNS.out hb
                  go_wp2
                  go_quiet (fail)
                  have hbw := below_drewN (n := nq) hbw
                  have hb1 := below_drewN (n := nq) hb1
                  have hblk : (wr.drewN nq).heap[w1.heap.size]? = some (.cells #[.int .i64 ln, .int .i64 1] 30) := hblk
                  generalize wr.drewN nq = wr2 at hbw hb1 hblk ⊢
                  clear c0 c1 c2 q0 q1 q2 q3
                  obtain ⟨c0, c1, c2⟩ := hcell2 wr2 hb1
                  obtain ⟨q0, q1, q2, q3⟩ := block_two hblk
                  have hset : (wr2.setCell ⟨w1.heap.size, 0, none⟩ (.int .i64 ((i : Int) + 2))).heap[w1.heap.size]? = some (.cells #[.int .i64 ((i : Int) + 2), .int .i64 1] 30) := set_first hblk
                  have hbs : Below w1.heap.size w1 (wr2.setCell ⟨w1.heap.size, 0, none⟩ (.int .i64 ((i : Int) + 2))) := hb1.setCell (Nat.le_refl _) _
                  have hbS : Below w.heap.size w (wr2.setCell ⟨w1.heap.size, 0, none⟩ (.int .i64 ((i : Int) + 2))) := hbw.setCell (by show w.heap.size ≤ w1.heap.size; omega) _
                  obtain ⟨d0, d1, d2⟩ := hcell2 _ hbs
                  go_wp2
                  go_roundw
                  case rel => exact ⟨i + 1, i + 2, s.size, by omega, by go_num, rfl, hset, hbs, hbS, .inr ⟨.inl HLS.out, by rw [hfin.1]; have := HLS.out; omega, hfin.2.1.symm⟩⟩
                  case measure => simp [RowKit.intOf]; omega
              · have hE := decide_eq_true (HIE.out (by omega))
                have e3 : ((i : Int) == (len : Int) - 1) = false := by simp; omega
                have d1 : ((n : Int) == (r : Int)) = true ∨ ((n : Int) == (r : Int)) = false := by cases ((n : Int) == (r : Int)) <;> simp
                have d2 : ((n : Int) == (s.size : Int)) = true ∨ ((n : Int) == (s.size : Int)) = false := by cases ((n : Int) == (s.size : Int)) <;> simp
                rcases d1 with d1 | d1
                all_goals rcases d2 with d2 | d2
                all_goals
                  go_wp2
                  go_quiet (fail)
                  have hbw := below_drewN (n := nq) hbw
                  have hb1 := below_drewN (n := nq) hb1
                  have hblk : (wr.drewN nq).heap[w1.heap.size]? = some (.cells #[.int .i64 ln, .int .i64 1] 30) := hblk
                  generalize wr.drewN nq = wr2 at hbw hb1 hblk ⊢
                  clear c0 c1 c2 q0 q1 q2 q3
                  obtain ⟨c0, c1, c2⟩ := hcell2 wr2 hb1
                  obtain ⟨q0, q1, q2, q3⟩ := block_two hblk
                  go_wp2
                  go_roundw
                  case rel => exact ⟨i + 1, ln, fr, by omega, by go_num, rfl, hblk, hb1, hbw, .inl ⟨by omega, by rw [hri]; omega⟩⟩
                  case measure => simp [RowKit.intOf]; omega
          · have e1 : ((n : Int) == (s.size : Int)) = false := by simp; omega
            have hst : (ln = lineP s n ∧ fr = begP s n) := by
              rcases HST.out with ⟨_, h⟩ | ⟨_, h⟩
              · omega
              · exact h
            go_wp2
            go_quiet (fail)
            have hbw := below_drewN (n := nq) hbw
            have hb1 := below_drewN (n := nq) hb1
            have hblk : (wr.drewN nq).heap[w1.heap.size]? = some (.cells #[.int .i64 ln, .int .i64 1] 30) := hblk
            generalize wr.drewN nq = wr2 at hbw hb1 hblk ⊢
            clear c0 c1 c2 q0 q1 q2 q3
            obtain ⟨c0, c1, c2⟩ := hcell2 wr2 hb1
            obtain ⟨q0, q1, q2, q3⟩ := block_two hblk
            go_wp2
            go_roundw
            case rel => exact ⟨i + 1, ln, fr, by omega, by go_num, rfl, hblk, hb1, hbw, .inr ⟨.inr (by rw [hri]; omega), hst.1, hst.2⟩⟩
            case measure => simp [RowKit.intOf]; omega
        · obtain rfl : i = (linesP s).length := by omega
          obtain ⟨hln, hfr⟩ : ln = lineP s n ∧ fr = begP s n := by
            rcases HST.out with ⟨h, _⟩ | ⟨_, h⟩
            · exact absurd h (Nat.lt_irrefl _)
            · exact h
          have hfrs : fr ≤ s.size := by rw [hfr]; exact HB.out
          have HFR := Lib.hid hfr
          have HLN := Lib.hid hln
          clear HST HC hfr hln
          go_wp2_with fail
          go_loopw [11, 12, 13] (fun av _ _ wx => ∃ (a j : Nat), av = .int .i64 a ∧ a ≤ s.size ∧ wx.heap[w1.heap.size]? = some (.cells #[.int .i64 ln, .int .i64 ((j : Int) + 1)] 30) ∧ Below w1.heap.size w1 wx ∧ Below w.heap.size w wx ∧ j + steps s a n = steps s fr n ∧ j ≤ a) (fun av _ _ _ => s.size - (RowKit.intOf av).toNat)
          case atStart => exact ⟨fr, 0, rfl, hfrs, hblk, hb1, hbw, by omega, Nat.zero_le _⟩
          case round =>
            obtain ⟨a, j, rfl, ha, hblk, hb1, hbw, hst, hja⟩ := hrel
            have zr := hb1.size
            have zp := (Array.getElem?_eq_some_iff.1 hblk).1
            by_cases han : a < n
            · have has : a < s.size := by omega
              have HV := Lib.hid (runeV_dec s a has)
              have hwd := width_at s a
              have hde := decode_end s a has
              have hd1 := decode_le s a
              have HS := Lib.hid (steps_go s a n han)
              generalize hr : (Utf8.decode s a).1 = r at *
              generalize hm : (Utf8.decode s a).2 = m at *
              clear hr hm
              go_wp2_with fail
              refine (ref_rune_any s (by unfold maxLen; omega) _ _).mono ?_
              rintro e w5 ⟨rfl, b5⟩
              rw [HV.out]
              have z5 := b5.size
              have hblk5 : w5.heap[w1.heap.size]? = some (.cells #[.int .i64 ln, .int .i64 ((j : Int) + 1)] 30) := by
                rw [b5.block _ zp]; exact hblk
              obtain ⟨q0, q1, q2, q3⟩ := block_two hblk5
              have hb5 : Below w1.heap.size w1 w5 := hb1.trans (b5.mono zr)
              have hw5 : Below w.heap.size w w5 := hbw.trans (b5.mono (by omega))
              go_wp2_with fail
              go_roundw
              case rel =>
                have hs := HS.out
                refine ⟨a + m, j + 1, by go_num, by omega, ?_, hb5.setCell (Nat.le_refl _) _, hw5.setCell (by show w.heap.size ≤ w1.heap.size; omega) _, by omega, by omega⟩
                have := set_two (x := .int .i64 (((j + 1 : Nat) : Int) + 1)) hblk5
                simpa using this
              case measure => simp [RowKit.intOf]; omega
            · have hs0 := steps_stop s a n (by omega)
              obtain ⟨q0, q1, q2, q3⟩ := block_two hblk
              have kRr : wr.heap[w.heap.size]? = some (.cells #[.int .i64 0, .int .i64 0] 30) := by
                rw [hb1.block _ (by omega)]; exact k1
              obtain ⟨r0, r1, r2, r3⟩ := block_two kRr
              obtain ⟨t0, t1, t2, t3⟩ := block_two (set_both (x := .int .i64 (ln : Int)) (y := .int .i64 ((j : Int) + 1)) kRr)
              go_wp2_with fail
              (try simp only [Exit.inBlock, Exit.then])
              refine bodyPost_ret (v := .tuple #[.agg #[.int .i64 (ln : Int), .int .i64 ((j : Int) + 1)], .int .i64 0]) (by rw [results_cell_tmp rfl]; go_simp) rfl ⟨?_, (hbw.setCell (by simp) _).setCell (by simp) _⟩
              have hc : colP s n = j + 1 := by unfold colP; rw [← HFR.out]; omega
              rw [HA.out, ← HLN.out, hc]; rfl
end Go.Proofs.YtkomodicpfbkhaaDoor
