/-
  text.At: an offset's place. Conditions: the two tables of unicode/utf8; at most 100000 bytes.
-/
import Derived.Test.YtkomodicpfbkhaaDoorSearch
import Derived.Test.YtkomodicpfbkhaaDoorTextRune
namespace Go.Proofs.YtkomodicpfbkhaaDoor
open Go.RowKit Go.Lib

def placeV (a b : Int) : Value := .agg #[.int .i64 a, .int .i64 b]
/-- What At answers. -/
def atV (s : ByteArray) (o : Int) : Value := if o < 0 ∨ (s.size : Int) < o then .tuple #[placeV 0 0, .int .i64 11] else .tuple #[placeV (lineP s o.toNat) (colP s o.toNat), .int .i64 0]
theorem atV_out (s : ByteArray) (o : Int) (h : o < 0 ∨ (s.size : Int) < o) : atV s o = .tuple #[.agg #[.int .i64 0, .int .i64 0], .int .i64 11] := by
  unfold atV; rw [if_pos h]; rfl
theorem atV_in (s : ByteArray) (o : Nat) (h : o ≤ s.size) : atV s o = .tuple #[.agg #[.int .i64 (lineP s o), .int .i64 (colP s o)], .int .i64 0] := by
  unfold atV; rw [if_neg (by omega)]; rfl

theorem runeV_dec (s : ByteArray) (p : Nat) (hp : p < s.size) : runeV s p = .tuple #[.int .i64 (Utf8.decode s p).1, .int .i64 (Utf8.decode s p).2] := runeV_at s p hp _ _ rfl

theorem block_two {w : World} {L : Nat} {a b : Value} {T : TypeId} (h : w.heap[L]? = some (.cells #[a, b] T)) :
    w.cell? ⟨L, 0, none⟩ = some a ∧ w.cell? ⟨L, 1, none⟩ = some b ∧ w.frozen? ⟨L, 0, none⟩ = false ∧ w.frozen? ⟨L, 1, none⟩ = false := by
  simp [World.cell?, World.frozen?, h]
theorem set_two {w : World} {L : Nat} {a b x : Value} {T : TypeId} (h : w.heap[L]? = some (.cells #[a, b] T)) : (w.setCell ⟨L, 1, none⟩ x).heap[L]? = some (.cells #[a, x] T) := by
  simp [World.setCell, Array.getElem?_modify, h]
theorem set_both {w : World} {L : Nat} {a b x y : Value} {T : TypeId} (h : w.heap[L]? = some (.cells #[a, b] T)) : ((w.setCell ⟨L, 0, none⟩ x).setCell ⟨L, 1, none⟩ y).heap[L]? = some (.cells #[x, y] T) := by
  have h1 : (w.setCell ⟨L, 0, none⟩ x).heap[L]? = some (.cells #[x, b] T) := by
    simp [World.setCell, Array.getElem?_modify, h]
  exact set_two h1
theorem block_one {w : World} {L : Nat} {a : Value} {T : TypeId} (h : w.heap[L]? = some (.cells #[a] T)) : w.cell? ⟨L, 0, none⟩ = some a := by
  simp [World.cell?, h]
/-- The line that the search finds. -/
theorem found_line (s : ByteArray) (n K : Nat) (hn : n ≤ s.size) (hne : linesP s ≠ []) (hK : K ≤ (linesP s).length) (hlo : ∀ t, t < K → posAt s (t + 1) ≤ n) (hhi : ∀ t, K ≤ t → t < (linesP s).length → n < posAt s (t + 1)) :
    ∃ k : Nat, min (K : Int) (((linesP s).length : Int) - 1) = k ∧ InLine s n k := by
  have hl := List.length_pos_iff.2 hne
  by_cases h : K < (linesP s).length
  · refine ⟨K, by omega, h, ?_, .inl (hhi K (Nat.le_refl _) h)⟩
    cases K with
    | zero => exact Nat.zero_le _
    | succ t => exact hlo t (by omega)
  · have hKe : K = (linesP s).length := by omega
    have h1 := hlo ((linesP s).length - 1) (by omega)
    have e : (linesP s).length - 1 + 1 = (linesP s).length := by omega
    rw [e, posAt_end] at h1
    refine ⟨(linesP s).length - 1, by omega, by omega, ?_, .inr ⟨by omega, by omega⟩⟩
    have := posAt_le s ((linesP s).length - 1)
    omega

set_option maxHeartbeats 4000000 in
set_option maxRecDepth 100000 in
theorem text_at_any (s : ByteArray) (hs : s.size ≤ 100000) (o : Int) (w : World) (hT : Tabs w) : Calls Tryd.prog 17 #[.string s, .int .i64 o] w fun e w' => e = .returned (atV s o) ∧ Below w.heap.size w w' := by
  have HW := Lib.hid (atV_out s o)
  by_cases h0 : o < 0
  · have HQ := Lib.hid (HW.out (.inl h0))
    go_enter Tryd.func17, Tryd.ntmps17
    go_wp2_with fail
    (try simp only [Exit.inBlock, Exit.then])
    refine bodyPost_ret (v := .tuple #[.agg #[.int .i64 0, .int .i64 0], .int .i64 11]) (by rw [results_cell_tmp rfl]; go_simp) rfl ⟨by rw [HQ.out], ((Below.refl _ w).alloc (Nat.le_refl _) _).alloc (by simp) _⟩
  · by_cases h1 : (s.size : Int) < o
    · have HQ := Lib.hid (HW.out (.inr h1))
      go_enter Tryd.func17, Tryd.ntmps17
      go_wp2_with fail
      (try simp only [Exit.inBlock, Exit.then])
      refine bodyPost_ret (v := .tuple #[.agg #[.int .i64 0, .int .i64 0], .int .i64 11]) (by rw [results_cell_tmp rfl]; go_simp) rfl ⟨by rw [HQ.out], ((Below.refl _ w).alloc (Nat.le_refl _) _).alloc (by simp) _⟩
    · clear HW
      obtain ⟨n, rfl⟩ : ∃ n : Nat, o = n := ⟨o.toNat, by omega⟩
      have hn : n ≤ s.size := by omega
      have HA := Lib.hid (atV_in s n hn)
      go_enter Tryd.func17, Tryd.ntmps17
      go_wp2_with fail
      refine (lines_any s (by omega) _).mono ?_
      rintro e w1 ⟨⟨v, rfl, hown⟩, b1⟩
      obtain ⟨aY, cap, rfl, hcap, hcell⟩ := LinesAt.of_owns hown
      clear hown
      have HC := Lib.hid hcell
      clear hcell
      have hbw : Below w.heap.size w w1 := (((Below.refl _ w).alloc (Nat.le_refl _) (.cells #[.int .i64 n] 3)).alloc (by simp) (.cells #[.int .i64 0, .int .i64 0] 30)).trans (b1.mono (by simp; omega))
      have z1 : w.heap.size + 2 ≤ w1.heap.size := by have := b1.size; simpa using this
      have k0 : w1.heap[w.heap.size]? = some (.cells #[.int .i64 n] 3) := by
        rw [b1.block _ (by simp; omega), Go.heap_alloc_old _ _ (by simp)]; exact heap_alloc_new w _
      have k1 : w1.heap[w.heap.size + 1]? = some (.cells #[.int .i64 0, .int .i64 0] 30) := by
        rw [b1.block _ (by simp)]
        have := heap_alloc_new (w.alloc (.cells #[.int .i64 n] 3)) (.cells #[.int .i64 0, .int .i64 0] 30)
        simpa using this
      have hT1 : Tabs w1 := hT.below hbw
      clear b1
      have hN : Below w1.heap.size w1 (w1.alloc (.cells #[.slice aY (linesP s).length cap] 54)) := (Below.refl _ w1).alloc (Nat.le_refl _) _
      have cOff : (w1.alloc (.cells #[.slice aY (linesP s).length cap] 54)).cell? ⟨w.heap.size, 0, none⟩ = some (.int .i64 n) := by
        rw [hN.cell (p := ⟨w.heap.size, 0, none⟩) (by show w.heap.size < _; omega)]
        simp [World.cell?, k0]
      have z2 : w1.heap.size + 1 = (w1.alloc (.cells #[.slice aY (linesP s).length cap] 54)).heap.size := by simp
      have kL := heap_alloc_new w1 (.cells #[.slice aY (linesP s).length cap] 54)
      have k1' : (w1.alloc (.cells #[.slice aY (linesP s).length cap] 54)).heap[w.heap.size + 1]? = some (.cells #[.int .i64 0, .int .i64 0] 30) := by
        rw [hN.block _ (by omega)]; exact k1
      have hT2 := hT1.below hN
      have hbw2 : Below w.heap.size w (w1.alloc (.cells #[.slice aY (linesP s).length cap] 54)) := hbw.trans (hN.mono (by omega))
      by_cases hcase : n = s.size ∧ behindB s = true
      · obtain ⟨hsz, hbh⟩ := hcase
        subst hsz
        go_wp2_with fail
        refine (behind_any s (by omega) _).mono ?_
        rintro e w3 ⟨rfl, hw3⟩
        subst hw3
        rw [hbh]
        generalize w1.alloc (.cells #[.slice aY (linesP s).length cap] 54) = w2 at *
        have cL := block_one kL
        obtain ⟨r0, r1, r2, r3⟩ := block_two k1'
        have hlen := linesP_len s
        obtain ⟨pl, _, pc⟩ := place_behind s s.size rfl hbh
        go_wp2_with fail
        (try simp only [Exit.inBlock, Exit.then])
        obtain ⟨q0, q1, q2, q3⟩ := block_two (set_both (x := .int .i64 (((linesP s).length : Int) + 1)) (y := .int .i64 1) k1')
        refine bodyPost_ret (v := .tuple #[.agg #[.int .i64 (((linesP s).length : Int) + 1), .int .i64 1], .int .i64 0]) (by rw [results_cell_tmp rfl]; go_simp) rfl ⟨?_, (hbw2.setCell (by simp) _).setCell (by simp) _⟩
        rw [HA.out, pl, pc]; rfl
      · have hsub : (n = s.size ∧ behindB s = false) ∨ n ≠ s.size := by
          by_cases h : n = s.size
          · refine .inl ⟨h, ?_⟩
            cases hb : behindB s
            · rfl
            · exact absurd ⟨h, hb⟩ hcase
          · exact .inr h
        rcases hsub with ⟨hsz, hbh⟩ | hsz
        · have HCS := Lib.hid hcase
          have HSZ := Lib.hid hsz
          have e0 : ((n : Int) == (s.size : Int)) = true := by simp; omega
          clear hcase hsz
          go_wp2_with fail
          refine (behind_any s (by omega) _).mono ?_
          rintro e w3 ⟨rfl, hw3⟩
          subst hw3
          rw [hbh]
          go_wp2_with fail
          have hcase := HCS.out
          have hsz := HSZ.out
          generalize w1.alloc (.cells #[.slice aY (linesP s).length cap] 54) = w2 at *
          have hne : linesP s ≠ [] := by
            intro hc
            have h3 := posAt_end s
            rw [hc] at h3
            have h4 : s.size = 0 := h3.symm
            apply hcase
            refine ⟨by omega, ?_⟩
            unfold behindB; rw [decide_eq_true h4]; rfl
          obtain ⟨g, rfl, hg, hcell⟩ := HC.out hne
          have hLk : Looks s n w1.heap.size w.heap.size g (linesP s).length cap w2 := by
            refine ⟨block_one kL, cOff, fun k hk => ?_, by omega, by omega, by omega⟩
            rw [hN.cell (p := ⟨g, k * 3 + 2, none⟩) hg, (hcell k hk).2.2, (posAt_line s k hk).2]
          have hcell2 : ∀ k, k < (linesP s).length → w2.cell? ⟨g, k * 3, none⟩ = some (.int .i64 (posAt s k)) := fun k hk => by
            rw [hN.cell (p := ⟨g, k * 3, none⟩) hg, (hcell k hk).1, (posAt_line s k hk).2]
          have hg2 : g < w2.heap.size := by omega
          have hlen := linesP_len s
          have HC2 := Lib.hid hcell2
          clear hcell hcell2 HC
          refine (search_any s n w1.heap.size w.heap.size g (linesP s).length cap (by omega) w2 hLk).mono ?_
          rintro e w3 ⟨⟨K, rfl, hK, hlo, hhi⟩, b3⟩
          have z3 := b3.size
          obtain ⟨k, hmin, hin⟩ := found_line s n K hn hne hK hlo hhi
          clear hlo hhi hLk
          obtain ⟨pl, pb⟩ := place_in s n k hn hcase hin
          have hkl := hin.1
          have i1 : (k : Int) < ((linesP s).length : Int) := by omega
          have hpk := posAt_le s k
          have hT3 := hT2.below b3
          have b23 : Below w.heap.size w w3 := hbw2.trans (b3.mono (by omega))
          have hN3 : Below w3.heap.size w3 (w3.alloc (.cells #[.int .i64 ((k : Int) + 1), .int .i64 1] 30)) := (Below.refl _ w3).alloc (Nat.le_refl _) _
          have cL : w3.cell? ⟨w1.heap.size, 0, none⟩ = some (.slice (some ⟨g, 0, none⟩) (linesP s).length cap) := by
            rw [b3.cell (p := ⟨w1.heap.size, 0, none⟩) (by show w1.heap.size < _; omega)]; exact block_one kL
          have cL4 : (w3.alloc (.cells #[.int .i64 ((k : Int) + 1), .int .i64 1] 30)).cell? ⟨w1.heap.size, 0, none⟩ = some (.slice (some ⟨g, 0, none⟩) (linesP s).length cap) := by
            rw [hN3.cell (p := ⟨w1.heap.size, 0, none⟩) (by show w1.heap.size < _; omega)]; exact cL
          have cF4 : (w3.alloc (.cells #[.int .i64 ((k : Int) + 1), .int .i64 1] 30)).cell? ⟨g, k * 3, none⟩ = some (.int .i64 (posAt s k)) := by
            rw [hN3.cell (p := ⟨g, k * 3, none⟩) (by show g < _; omega), b3.cell (p := ⟨g, k * 3, none⟩) hg2]; exact HC2.out k hkl
          go_wp2_with fail
          have cO3 : w3.cell? ⟨w.heap.size, 0, none⟩ = some (.int .i64 n) := by
            rw [b3.cell (p := ⟨w.heap.size, 0, none⟩) (by show w.heap.size < _; omega)]; exact cOff
          have kR3 : w3.heap[w.heap.size + 1]? = some (.cells #[.int .i64 0, .int .i64 0] 30) := by
            rw [b3.block _ (by omega)]; exact k1'
          go_loopw [9, 10, 11] (fun av _ _ wr => ∃ (a j : Nat), av = .int .i64 a ∧ a ≤ s.size ∧ wr.heap[w3.heap.size]? = some (.cells #[.int .i64 ((k : Int) + 1), .int .i64 ((j : Int) + 1)] 30) ∧ Below w3.heap.size w3 wr ∧ j + steps s a n = steps s (posAt s k) n ∧ j ≤ a) (fun av _ _ _ => s.size - (RowKit.intOf av).toNat)
          case atStart => exact ⟨posAt s k, 0, rfl, hpk, heap_alloc_new w3 _, hN3, by omega, Nat.zero_le _⟩
          case round =>
            obtain ⟨a, j, rfl, ha, hblk, hbr, hst, hja⟩ := hrel
            have zr := hbr.size
            have zp := (Array.getElem?_eq_some_iff.1 hblk).1
            have cOr : wr.cell? ⟨w.heap.size, 0, none⟩ = some (.int .i64 n) := by
              rw [hbr.cell (p := ⟨w.heap.size, 0, none⟩) (by show w.heap.size < _; omega)]; exact cO3
            have hTr := hT3.below hbr
            by_cases han : a < n
            · have has : a < s.size := by omega
              have HV := Lib.hid (runeV_dec s a has)
              have hwd := width_at s a
              have hde := decode_end s a has
              have hd1 := decode_le s a
              have HS := Lib.hid (steps_go s a n han)
              generalize hr : (Utf8.decode s a).1 = r at *
              generalize hm : (Utf8.decode s a).2 = m at *
              clear hr hm
              go_wp2_with fail
              refine (text_rune_any s (by unfold maxLen; omega) _ _ hTr).mono ?_
              rintro e w5 ⟨rfl, b5⟩
              rw [HV.out]
              have z5 := b5.size
              have hblk5 : w5.heap[w3.heap.size]? = some (.cells #[.int .i64 ((k : Int) + 1), .int .i64 ((j : Int) + 1)] 30) := by
                rw [b5.block _ zp]; exact hblk
              obtain ⟨q0, q1, q2, q3⟩ := block_two hblk5
              have hb5 : Below w3.heap.size w3 w5 := hbr.trans (b5.mono zr)
              go_wp2_with fail
              go_roundw
              case rel =>
                have hs := HS.out
                refine ⟨a + m, j + 1, by go_num, by omega, ?_, hb5.setCell (Nat.le_refl _) _, by omega, by omega⟩
                have := set_two (x := .int .i64 (((j + 1 : Nat) : Int) + 1)) hblk5
                simpa using this
              case measure => simp [RowKit.intOf]; omega
            · have hs0 := steps_stop s a n (by omega)
              obtain ⟨q0, q1, q2, q3⟩ := block_two hblk
              have kRr : wr.heap[w.heap.size + 1]? = some (.cells #[.int .i64 0, .int .i64 0] 30) := by
                rw [hbr.block _ (by omega)]; exact kR3
              obtain ⟨r0, r1, r2, r3⟩ := block_two kRr
              obtain ⟨t0, t1, t2, t3⟩ := block_two (set_both (x := .int .i64 ((k : Int) + 1)) (y := .int .i64 ((j : Int) + 1)) kRr)
              go_wp2_with fail
              (try simp only [Exit.inBlock, Exit.then])
              refine bodyPost_ret (v := .tuple #[.agg #[.int .i64 ((k : Int) + 1), .int .i64 ((j : Int) + 1)], .int .i64 0]) (by rw [results_cell_tmp rfl]; go_simp) rfl ⟨?_, ((b23.trans (hbr.mono (by omega))).setCell (by simp) _).setCell (by simp) _⟩
              have hc : colP s n = j + 1 := by unfold colP; rw [pb]; omega
              rw [HA.out, pl, hc]; rfl
        · have e0 : ((n : Int) == (s.size : Int)) = false := by simp; omega
          go_wp2_with fail
          generalize w1.alloc (.cells #[.slice aY (linesP s).length cap] 54) = w2 at *
          have hne : linesP s ≠ [] := by
            intro hc
            have h3 := posAt_end s
            rw [hc] at h3
            have h4 : s.size = 0 := h3.symm
            apply hcase
            refine ⟨by omega, ?_⟩
            unfold behindB; rw [decide_eq_true h4]; rfl
          obtain ⟨g, rfl, hg, hcell⟩ := HC.out hne
          have hLk : Looks s n w1.heap.size w.heap.size g (linesP s).length cap w2 := by
            refine ⟨block_one kL, cOff, fun k hk => ?_, by omega, by omega, by omega⟩
            rw [hN.cell (p := ⟨g, k * 3 + 2, none⟩) hg, (hcell k hk).2.2, (posAt_line s k hk).2]
          have hcell2 : ∀ k, k < (linesP s).length → w2.cell? ⟨g, k * 3, none⟩ = some (.int .i64 (posAt s k)) := fun k hk => by
            rw [hN.cell (p := ⟨g, k * 3, none⟩) hg, (hcell k hk).1, (posAt_line s k hk).2]
          have hg2 : g < w2.heap.size := by omega
          have hlen := linesP_len s
          have HC2 := Lib.hid hcell2
          clear hcell hcell2 HC
          refine (search_any s n w1.heap.size w.heap.size g (linesP s).length cap (by omega) w2 hLk).mono ?_
          rintro e w3 ⟨⟨K, rfl, hK, hlo, hhi⟩, b3⟩
          have z3 := b3.size
          obtain ⟨k, hmin, hin⟩ := found_line s n K hn hne hK hlo hhi
          clear hlo hhi hLk
          obtain ⟨pl, pb⟩ := place_in s n k hn hcase hin
          have hkl := hin.1
          have i1 : (k : Int) < ((linesP s).length : Int) := by omega
          have hpk := posAt_le s k
          have hT3 := hT2.below b3
          have b23 : Below w.heap.size w w3 := hbw2.trans (b3.mono (by omega))
          have hN3 : Below w3.heap.size w3 (w3.alloc (.cells #[.int .i64 ((k : Int) + 1), .int .i64 1] 30)) := (Below.refl _ w3).alloc (Nat.le_refl _) _
          have cL : w3.cell? ⟨w1.heap.size, 0, none⟩ = some (.slice (some ⟨g, 0, none⟩) (linesP s).length cap) := by
            rw [b3.cell (p := ⟨w1.heap.size, 0, none⟩) (by show w1.heap.size < _; omega)]; exact block_one kL
          have cL4 : (w3.alloc (.cells #[.int .i64 ((k : Int) + 1), .int .i64 1] 30)).cell? ⟨w1.heap.size, 0, none⟩ = some (.slice (some ⟨g, 0, none⟩) (linesP s).length cap) := by
            rw [hN3.cell (p := ⟨w1.heap.size, 0, none⟩) (by show w1.heap.size < _; omega)]; exact cL
          have cF4 : (w3.alloc (.cells #[.int .i64 ((k : Int) + 1), .int .i64 1] 30)).cell? ⟨g, k * 3, none⟩ = some (.int .i64 (posAt s k)) := by
            rw [hN3.cell (p := ⟨g, k * 3, none⟩) (by show g < _; omega), b3.cell (p := ⟨g, k * 3, none⟩) hg2]; exact HC2.out k hkl
          go_wp2_with fail
          have cO3 : w3.cell? ⟨w.heap.size, 0, none⟩ = some (.int .i64 n) := by
            rw [b3.cell (p := ⟨w.heap.size, 0, none⟩) (by show w.heap.size < _; omega)]; exact cOff
          have kR3 : w3.heap[w.heap.size + 1]? = some (.cells #[.int .i64 0, .int .i64 0] 30) := by
            rw [b3.block _ (by omega)]; exact k1'
          go_loopw [9, 10, 11] (fun av _ _ wr => ∃ (a j : Nat), av = .int .i64 a ∧ a ≤ s.size ∧ wr.heap[w3.heap.size]? = some (.cells #[.int .i64 ((k : Int) + 1), .int .i64 ((j : Int) + 1)] 30) ∧ Below w3.heap.size w3 wr ∧ j + steps s a n = steps s (posAt s k) n ∧ j ≤ a) (fun av _ _ _ => s.size - (RowKit.intOf av).toNat)
          case atStart => exact ⟨posAt s k, 0, rfl, hpk, heap_alloc_new w3 _, hN3, by omega, Nat.zero_le _⟩
          case round =>
            obtain ⟨a, j, rfl, ha, hblk, hbr, hst, hja⟩ := hrel
            have zr := hbr.size
            have zp := (Array.getElem?_eq_some_iff.1 hblk).1
            have cOr : wr.cell? ⟨w.heap.size, 0, none⟩ = some (.int .i64 n) := by
              rw [hbr.cell (p := ⟨w.heap.size, 0, none⟩) (by show w.heap.size < _; omega)]; exact cO3
            have hTr := hT3.below hbr
            by_cases han : a < n
            · have has : a < s.size := by omega
              have HV := Lib.hid (runeV_dec s a has)
              have hwd := width_at s a
              have hde := decode_end s a has
              have hd1 := decode_le s a
              have HS := Lib.hid (steps_go s a n han)
              generalize hr : (Utf8.decode s a).1 = r at *
              generalize hm : (Utf8.decode s a).2 = m at *
              clear hr hm
              go_wp2_with fail
              refine (text_rune_any s (by unfold maxLen; omega) _ _ hTr).mono ?_
              rintro e w5 ⟨rfl, b5⟩
              rw [HV.out]
              have z5 := b5.size
              have hblk5 : w5.heap[w3.heap.size]? = some (.cells #[.int .i64 ((k : Int) + 1), .int .i64 ((j : Int) + 1)] 30) := by
                rw [b5.block _ zp]; exact hblk
              obtain ⟨q0, q1, q2, q3⟩ := block_two hblk5
              have hb5 : Below w3.heap.size w3 w5 := hbr.trans (b5.mono zr)
              go_wp2_with fail
              go_roundw
              case rel =>
                have hs := HS.out
                refine ⟨a + m, j + 1, by go_num, by omega, ?_, hb5.setCell (Nat.le_refl _) _, by omega, by omega⟩
                have := set_two (x := .int .i64 (((j + 1 : Nat) : Int) + 1)) hblk5
                simpa using this
              case measure => simp [RowKit.intOf]; omega
            · have hs0 := steps_stop s a n (by omega)
              obtain ⟨q0, q1, q2, q3⟩ := block_two hblk
              have kRr : wr.heap[w.heap.size + 1]? = some (.cells #[.int .i64 0, .int .i64 0] 30) := by
                rw [hbr.block _ (by omega)]; exact kR3
              obtain ⟨r0, r1, r2, r3⟩ := block_two kRr
              obtain ⟨t0, t1, t2, t3⟩ := block_two (set_both (x := .int .i64 ((k : Int) + 1)) (y := .int .i64 ((j : Int) + 1)) kRr)
              go_wp2_with fail
              (try simp only [Exit.inBlock, Exit.then])
              refine bodyPost_ret (v := .tuple #[.agg #[.int .i64 ((k : Int) + 1), .int .i64 ((j : Int) + 1)], .int .i64 0]) (by rw [results_cell_tmp rfl]; go_simp) rfl ⟨?_, ((b23.trans (hbr.mono (by omega))).setCell (by simp) _).setCell (by simp) _⟩
              have hc : colP s n = j + 1 := by unfold colP; rw [pb]; omega
              rw [HA.out, pl, hc]; rfl
end Go.Proofs.YtkomodicpfbkhaaDoor
