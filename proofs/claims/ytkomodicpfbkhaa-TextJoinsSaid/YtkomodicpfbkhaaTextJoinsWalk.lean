/-
  The walk of TextJoins: it returns true whatever the texts. Conditions: none.
-/
import Derived.Test.YtkomodicpfbkhaaLinesL
import Derived.Test.YtkomodicpfbkhaaSameLines
import Derived.BigQuiet
namespace Go.Proofs.Ytkomodicpfbkhaa
open Go.RowKit Go.Lib

theorem isEmpty_size (a : ByteArray) : a.toList.isEmpty = decide (a.size = 0) := by
  rw [Go.ByteArray.toList_eq]
  have e : a.data.toList.length = a.size := Array.length_toList
  cases h : a.data.toList with
  | nil => rw [h] at e; simp at e; rw [← e]; rfl
  | cons x t => rw [h] at e; simp at e; rw [← e]; simp

namespace textJoins
set_option maxHeartbeats 8000000 in
set_option maxRecDepth 100000 in
theorem walk (a : ByteArray) (ha : a.size ≤ maxLen) (b : ByteArray) (hb : b.size ≤ maxLen) (w : World) :
    Calls Try.prog 5 #[.string a, .string b] w fun e w' => e = .returned (.bool true) ∧ Below w.heap.size w w' := by
  have C1 := Lib.hid (show (linesP ⟨#[97, 10, 98]⟩).length = 2 by rw [linesP_eq _ 3 rfl]; decide +kernel)
  unfold maxLen at ha hb
  have hem := isEmpty_size a
  by_cases h1 : 50000 < a.size
  · clear hem
    go_enter Try.func5, Try.ntmps5
    go_wp2_with fail
    refine (lines_any _ (by decide) _).mono ?_
    rintro e w1 ⟨⟨v, rfl, hown⟩, b1⟩
    obtain ⟨a1, cap, rfl⟩ := (LinesAt.of_owns hown).shape
    rw [C1.out]
    go_wp2_with fail
    go_ret
    exact ⟨rfl, b1⟩
  · by_cases h2 : 50000 < b.size
    · clear hem
      go_enter Try.func5, Try.ntmps5
      go_wp2_with fail
      refine (lines_any _ (by decide) _).mono ?_
      rintro e w1 ⟨⟨v, rfl, hown⟩, b1⟩
      obtain ⟨a1, cap, rfl⟩ := (LinesAt.of_owns hown).shape
      rw [C1.out]
      go_wp2_with fail
      go_ret
      exact ⟨rfl, b1⟩
    · have hcase : (a.toList.isEmpty = true) ∨ (a.toList.isEmpty = false ∧ 0 < a.size) := by
        rw [hem]
        by_cases h : a.size = 0
        · exact .inl (decide_eq_true h)
        · exact .inr ⟨decide_eq_false h, by omega⟩
      clear hem
      have HJ := Lib.hid (linesP_join a b)
      have zA : (a ++ ⟨#[10]⟩ : ByteArray).size = a.size + 1 := by rw [ByteArray.size_append]; rfl
      have zB : (a ++ ⟨#[10]⟩ ++ b : ByteArray).size = a.size + 1 + b.size := by rw [ByteArray.size_append, zA]
      have kA := fun w => lines_any (a ++ ⟨#[10]⟩ ++ b) (by omega) w
      have kX := fun w => lines_any (a ++ ⟨#[10]⟩) (by omega) w
      have kY := fun w => lines_any b (by omega) w
      have hXn : linesP (a ++ ⟨#[10]⟩ : ByteArray) ≠ [] := by
        unfold linesP
        rw [linesFrom_in _ 0 (by omega)]; simp
      have hXl := linesP_len (a ++ ⟨#[10]⟩ : ByteArray)
      have hYl := linesP_len b
      have hYb := Lib.hid (linesP_bound b)
      rw [zA] at hXl
      rw [linesP_join a b] at kA
      clear zA zB
      generalize linesP (a ++ ⟨#[10]⟩ : ByteArray) = X at *
      generalize linesP b = Y at *
      have hML : (X ++ Y.map (LineP.shift (a.size + 1))).length = X.length + Y.length := by simp
      have hdec : (a.toList.isEmpty = true) ∨ (a.toList.isEmpty = false ∧ ∃ h : a.size - 1 < a.size, (((a.size : Int) - 1) = ((a.size - 1 : Nat) : Int)) ∧ ((a[a.size - 1].toNat = 13) ∨ ¬ (a[a.size - 1].toNat = 13))) := by
        rcases hcase with h | ⟨h, h0⟩
        · exact .inl h
        · exact .inr ⟨h, by omega, by omega, Classical.em _⟩
      clear hcase
      rcases hdec with x4 | ⟨x4, hi, e0, h13 | h13⟩
      · go_enter Try.func5, Try.ntmps5
        go_wp2_with fail
        refine (lines_any _ (by decide) _).mono ?_
        rintro e w1 ⟨⟨v, rfl, hown⟩, b1⟩
        obtain ⟨a1, cap, rfl⟩ := (LinesAt.of_owns hown).shape
        rw [C1.out]
        clear hown
        have z1 := b1.size
        go_wp2_with fail
        refine (kA _).mono ?_
        rintro e w2 ⟨⟨v2, rfl, hownA⟩, b2⟩
        have z2 := b2.size
        have hA := LinesAt.of_owns hownA
        clear hownA

        obtain ⟨aA, capA, rfl, hcA, hxA, hfst⟩ := hA.first
        obtain ⟨gA, rfl, hgA, hcellA⟩ := hxA hXn
        have HCA := Lib.hid (show ∀ j (hj : j < Y.length), w2.cell? ⟨gA, (X.length + j) * 3, none⟩ = some (.int .i64 (a.size + 1 + Y[j].from_ : Nat)) ∧ w2.cell? ⟨gA, (X.length + j) * 3 + 1, none⟩ = some (.int .i64 (a.size + 1 + Y[j].to_ : Nat)) ∧ w2.cell? ⟨gA, (X.length + j) * 3 + 2, none⟩ = some (.int .i64 (a.size + 1 + Y[j].end_ : Nat)) by
          intro j hj
          have := hcellA (X.length + j) (by rw [hML]; omega)
          rw [List.getElem_append_right (by omega)] at this
          simpa [LineP.shift] using this)
        clear hcellA hxA hA
        rw [hML] at hcA ⊢
        clear hML
        have hb2 : Below w.heap.size w w2 := b1.trans (b2.mono z1)
        have hB2 := Below.refl w2.heap.size w2
        go_wp2_with fail
        refine (kX _).mono ?_
        rintro e w3 ⟨⟨v3, rfl, hownX⟩, b3⟩
        have z3 := b3.size
        have hX := LinesAt.of_owns hownX
        clear hownX
        obtain ⟨aX, capX, rfl⟩ := hX.shape
        go_wp2_with fail
        refine (kY _).mono ?_
        rintro e w4 ⟨⟨v4, rfl, hownY⟩, b4⟩
        have z4 := b4.size
        have hY := LinesAt.of_owns hownY
        clear hownY
        obtain ⟨aY, capY, rfl, hcY, hcellY⟩ := hY
        have HCY := Lib.hid hcellY
        clear hcellY kA kX kY
        have b24 : Below w2.heap.size w2 w4 := b3.trans (b4.mono z3)
        go_wp2_with fail
        refine (sameLines_any X (by omega) _ _ _ ((hfst capA (by omega)).below b24) (hX.below b4)).mono ?_
        rintro e w5 ⟨rfl, b5⟩
        have z5 := b5.size
        have B5 : Below w.heap.size w w5 := hb2.trans ((b24.trans (b5.mono (by omega))).mono (by omega))
        have B25 : Below w2.heap.size w2 w5 := b24.trans (b5.mono (by omega))
        have B45 : Below w4.heap.size w4 w5 := b5
        clear hfst hX
        go_wp2
        go_loopw [8, 9] (fun i _ wr => ∃ k : Nat, k ≤ Y.length ∧ i = .int .i64 k ∧ Below w.heap.size w wr ∧ Below w2.heap.size w2 wr ∧ Below w4.heap.size w4 wr) (fun i _ _ => Y.length - (RowKit.intOf i).toNat)
        case atStart => exact ⟨0, Nat.zero_le _, rfl, B5, B25, B45⟩
        case round =>
          obtain ⟨k, hk, rfl, hbw, hbw2, hbw4⟩ := hrel
          by_cases hlt : k < Y.length
          · have hYn : Y ≠ [] := by intro e; subst e; simp at hlt
            obtain ⟨gY, rfl, hgY, hcellY⟩ := HCY.out hYn
            obtain ⟨c0, c1, c2⟩ := hcellY k hlt
            obtain ⟨d0, d1, d2⟩ := HCA.out k hlt
            obtain ⟨y0, y1, y2⟩ := hYb.out k hlt
            rw [← hbw4.cell (p := ⟨gY, _, none⟩) hgY] at c0 c1 c2
            rw [← hbw2.cell (p := ⟨gA, _, none⟩) hgA] at d0 d1 d2
            clear hcellY
            generalize Y[k].from_ = yf at *
            generalize Y[k].to_ = yt at *
            generalize Y[k].end_ = ye at *
            go_wp2
            have hN : Below wr.heap.size wr (wr.alloc (.cells #[.int .i64 ((a.size : Int) + 1 + (yf : Int)), .int .i64 ((a.size : Int) + 1 + (yt : Int)), .int .i64 ((a.size : Int) + 1 + (ye : Int))] 27)) := (Below.refl _ wr).alloc (Nat.le_refl _) _
            obtain ⟨l0, l1, l2, _⟩ := block_three (heap_alloc_new wr (.cells #[.int .i64 ((a.size : Int) + 1 + (yf : Int)), .int .i64 ((a.size : Int) + 1 + (yt : Int)), .int .i64 ((a.size : Int) + 1 + (ye : Int))] 27))
            have hgr : gY < wr.heap.size := by have := hbw4.size; omega
            rw [← hN.cell (p := ⟨gY, _, none⟩) hgr] at c0 c1 c2
            have hbw := hbw.trans (hN.mono hbw.size)
            have hbw2 := hbw2.trans (hN.mono hbw2.size)
            have hbw4 := hbw4.trans (hN.mono hbw4.size)
            clear d0 d1 d2 hN
            have e0 : ((a.size : Int) + 1 + (yf : Int) != (yf : Int) + (a.size : Int) + 1) = false := by simp; omega
            have e1 : ((a.size : Int) + 1 + (yt : Int) != (yt : Int) + (a.size : Int) + 1) = false := by simp; omega
            have e2 : ((a.size : Int) + 1 + (ye : Int) != (ye : Int) + (a.size : Int) + 1) = false := by simp; omega
            generalize wr.heap.size = L at *
            generalize wr.alloc (.cells #[.int .i64 ((a.size : Int) + 1 + (yf : Int)), .int .i64 ((a.size : Int) + 1 + (yt : Int)), .int .i64 ((a.size : Int) + 1 + (ye : Int))] 27) = wn at *
            go_quiet (fail)
            have hbw := below_drewN (n := nq) hbw
            have hbw2 := below_drewN (n := nq) hbw2
            have hbw4 := below_drewN (n := nq) hbw4
            go_wp2
            go_roundw
            case rel => exact ⟨k + 1, by omega, by go_num, hbw, hbw2, hbw4⟩
            case measure => simp [RowKit.intOf]; omega
          · go_wp2
            go_ret
            exact ⟨rfl, hbw⟩

      · have x1 : ((a[a.size - 1].toNat : Int) == 13) = true := by simp; omega
        have x2 : (a[a.size - 1].toNat == 13) = true := by simp; omega
        go_enter Try.func5, Try.ntmps5
        go_wp2_with fail
        refine (lines_any _ (by decide) _).mono ?_
        rintro e w1 ⟨⟨v, rfl, hown⟩, b1⟩
        obtain ⟨a1, cap, rfl⟩ := (LinesAt.of_owns hown).shape
        rw [C1.out]
        go_wp2_with fail
        go_ret
        exact ⟨rfl, b1⟩
      · have x1 : ((a[a.size - 1].toNat : Int) == 13) = false := by simp; omega
        have x2 : (a[a.size - 1].toNat == 13) = false := by simp; omega
        go_enter Try.func5, Try.ntmps5
        go_wp2_with fail
        refine (lines_any _ (by decide) _).mono ?_
        rintro e w1 ⟨⟨v, rfl, hown⟩, b1⟩
        obtain ⟨a1, cap, rfl⟩ := (LinesAt.of_owns hown).shape
        rw [C1.out]
        clear hown
        have z1 := b1.size
        go_wp2_with fail
        refine (kA _).mono ?_
        rintro e w2 ⟨⟨v2, rfl, hownA⟩, b2⟩
        have z2 := b2.size
        have hA := LinesAt.of_owns hownA
        clear hownA

        obtain ⟨aA, capA, rfl, hcA, hxA, hfst⟩ := hA.first
        obtain ⟨gA, rfl, hgA, hcellA⟩ := hxA hXn
        have HCA := Lib.hid (show ∀ j (hj : j < Y.length), w2.cell? ⟨gA, (X.length + j) * 3, none⟩ = some (.int .i64 (a.size + 1 + Y[j].from_ : Nat)) ∧ w2.cell? ⟨gA, (X.length + j) * 3 + 1, none⟩ = some (.int .i64 (a.size + 1 + Y[j].to_ : Nat)) ∧ w2.cell? ⟨gA, (X.length + j) * 3 + 2, none⟩ = some (.int .i64 (a.size + 1 + Y[j].end_ : Nat)) by
          intro j hj
          have := hcellA (X.length + j) (by rw [hML]; omega)
          rw [List.getElem_append_right (by omega)] at this
          simpa [LineP.shift] using this)
        clear hcellA hxA hA
        rw [hML] at hcA ⊢
        clear hML
        have hb2 : Below w.heap.size w w2 := b1.trans (b2.mono z1)
        have hB2 := Below.refl w2.heap.size w2
        go_wp2_with fail
        refine (kX _).mono ?_
        rintro e w3 ⟨⟨v3, rfl, hownX⟩, b3⟩
        have z3 := b3.size
        have hX := LinesAt.of_owns hownX
        clear hownX
        obtain ⟨aX, capX, rfl⟩ := hX.shape
        go_wp2_with fail
        refine (kY _).mono ?_
        rintro e w4 ⟨⟨v4, rfl, hownY⟩, b4⟩
        have z4 := b4.size
        have hY := LinesAt.of_owns hownY
        clear hownY
        obtain ⟨aY, capY, rfl, hcY, hcellY⟩ := hY
        have HCY := Lib.hid hcellY
        clear hcellY kA kX kY
        have b24 : Below w2.heap.size w2 w4 := b3.trans (b4.mono z3)
        go_wp2_with fail
        refine (sameLines_any X (by omega) _ _ _ ((hfst capA (by omega)).below b24) (hX.below b4)).mono ?_
        rintro e w5 ⟨rfl, b5⟩
        have z5 := b5.size
        have B5 : Below w.heap.size w w5 := hb2.trans ((b24.trans (b5.mono (by omega))).mono (by omega))
        have B25 : Below w2.heap.size w2 w5 := b24.trans (b5.mono (by omega))
        have B45 : Below w4.heap.size w4 w5 := b5
        clear hfst hX
        go_wp2
        go_loopw [8, 9] (fun i _ wr => ∃ k : Nat, k ≤ Y.length ∧ i = .int .i64 k ∧ Below w.heap.size w wr ∧ Below w2.heap.size w2 wr ∧ Below w4.heap.size w4 wr) (fun i _ _ => Y.length - (RowKit.intOf i).toNat)
        case atStart => exact ⟨0, Nat.zero_le _, rfl, B5, B25, B45⟩
        case round =>
          obtain ⟨k, hk, rfl, hbw, hbw2, hbw4⟩ := hrel
          by_cases hlt : k < Y.length
          · have hYn : Y ≠ [] := by intro e; subst e; simp at hlt
            obtain ⟨gY, rfl, hgY, hcellY⟩ := HCY.out hYn
            obtain ⟨c0, c1, c2⟩ := hcellY k hlt
            obtain ⟨d0, d1, d2⟩ := HCA.out k hlt
            obtain ⟨y0, y1, y2⟩ := hYb.out k hlt
            rw [← hbw4.cell (p := ⟨gY, _, none⟩) hgY] at c0 c1 c2
            rw [← hbw2.cell (p := ⟨gA, _, none⟩) hgA] at d0 d1 d2
            clear hcellY
            generalize Y[k].from_ = yf at *
            generalize Y[k].to_ = yt at *
            generalize Y[k].end_ = ye at *
            go_wp2
            have hN : Below wr.heap.size wr (wr.alloc (.cells #[.int .i64 ((a.size : Int) + 1 + (yf : Int)), .int .i64 ((a.size : Int) + 1 + (yt : Int)), .int .i64 ((a.size : Int) + 1 + (ye : Int))] 27)) := (Below.refl _ wr).alloc (Nat.le_refl _) _
            obtain ⟨l0, l1, l2, _⟩ := block_three (heap_alloc_new wr (.cells #[.int .i64 ((a.size : Int) + 1 + (yf : Int)), .int .i64 ((a.size : Int) + 1 + (yt : Int)), .int .i64 ((a.size : Int) + 1 + (ye : Int))] 27))
            have hgr : gY < wr.heap.size := by have := hbw4.size; omega
            rw [← hN.cell (p := ⟨gY, _, none⟩) hgr] at c0 c1 c2
            have hbw := hbw.trans (hN.mono hbw.size)
            have hbw2 := hbw2.trans (hN.mono hbw2.size)
            have hbw4 := hbw4.trans (hN.mono hbw4.size)
            clear d0 d1 d2 hN
            have e0 : ((a.size : Int) + 1 + (yf : Int) != (yf : Int) + (a.size : Int) + 1) = false := by simp; omega
            have e1 : ((a.size : Int) + 1 + (yt : Int) != (yt : Int) + (a.size : Int) + 1) = false := by simp; omega
            have e2 : ((a.size : Int) + 1 + (ye : Int) != (ye : Int) + (a.size : Int) + 1) = false := by simp; omega
            generalize wr.heap.size = L at *
            generalize wr.alloc (.cells #[.int .i64 ((a.size : Int) + 1 + (yf : Int)), .int .i64 ((a.size : Int) + 1 + (yt : Int)), .int .i64 ((a.size : Int) + 1 + (ye : Int))] 27) = wn at *
            go_quiet (fail)
            have hbw := below_drewN (n := nq) hbw
            have hbw2 := below_drewN (n := nq) hbw2
            have hbw4 := below_drewN (n := nq) hbw4
            go_wp2
            go_roundw
            case rel => exact ⟨k + 1, by omega, by go_num, hbw, hbw2, hbw4⟩
            case measure => simp [RowKit.intOf]; omega
          · go_wp2
            go_ret
            exact ⟨rfl, hbw⟩
end textJoins
end Go.Proofs.Ytkomodicpfbkhaa
