/-
  The walk of TextWhole: it returns true whatever the text. Conditions: none.
-/
import Derived.Test.YtkomodicpfbkhaaLinesL
import Derived.BigQuiet
namespace Go.Proofs.Ytkomodicpfbkhaa
open Go.RowKit Go.Lib

theorem ext_list (s t : ByteArray) (h : s.data.toList = t.data.toList) : s = t := by
  cases s; cases t; simpa using h
theorem extract_empty (s : ByteArray) (q : Nat) : s.extract q q = ⟨#[]⟩ := by
  apply ext_list
  rw [extract_data]; simp
theorem extract_one (s : ByteArray) (q : Nat) (h : q < s.size) : s.extract q (q + 1) = ⟨#[s.get! q]⟩ := by
  apply ext_list
  have h2 : q < s.data.toList.length := by simpa using h
  rw [extract_data, List.drop_eq_getElem_cons h2, bang_get s q h, show q + 1 - q = 1 by omega]
  rfl
theorem extract_two (s : ByteArray) (q : Nat) (h : q + 1 < s.size) : s.extract q (q + 2) = ⟨#[s.get! q, s.get! (q + 1)]⟩ := by
  apply ext_list
  have h2 : q < s.data.toList.length := by have : q < s.size := by omega
                                           simpa using this
  have h3 : q + 1 < s.data.toList.length := by simpa using h
  rw [extract_data, List.drop_eq_getElem_cons h2, List.drop_eq_getElem_cons h3, bang_get s q (by omega), bang_get s (q + 1) h, show q + 2 - q = 2 by omega]
  rfl

/-- What an end of a line is. -/
theorem eol_cases (s : ByteArray) (p : Nat) (hp : p < s.size) :
    (s.extract (lineTo s p) (lineEnd s (lineTo s p)) = ⟨#[13, 10]⟩) ∨ (s.extract (lineTo s p) (lineEnd s (lineTo s p)) = ⟨#[10]⟩) ∨
    (s.extract (lineTo s p) (lineEnd s (lineTo s p)) = ⟨#[13]⟩ ∧ (lineEnd s (lineTo s p) < s.size → (s.get! (lineEnd s (lineTo s p))).toNat ≠ 10)) ∨
    (s.extract (lineTo s p) (lineEnd s (lineTo s p)) = ⟨#[]⟩ ∧ lineEnd s (lineTo s p) = s.size) := by
  have q1 := lineTo_le s p (by omega)
  by_cases hq : lineTo s p < s.size
  · have he := lineTo_eol s p hq
    unfold lineEnd
    rw [if_pos hq]
    cases hc : crlfAt s (lineTo s p)
    · simp only [Bool.false_eq_true, if_false]
      rw [extract_one s _ hq]
      unfold isEol at he
      simp only [Bool.or_eq_true, beq_iff_eq] at he
      rcases he with he | he
      · refine .inr (.inr (.inl ⟨by rw [he], fun hlt h10 => ?_⟩))
        have h10' : s.get! (lineTo s p + 1) = 10 := by
          rw [← UInt8.toNat_inj]; exact h10
        unfold crlfAt at hc
        rw [decide_eq_true hlt, he, h10'] at hc
        revert hc; decide
      · exact .inr (.inl (by rw [he]))
    · simp only [if_true]
      unfold crlfAt at hc
      simp only [Bool.and_eq_true, decide_eq_true_eq, beq_iff_eq] at hc
      rw [extract_two s _ hc.1.1, hc.1.2, hc.2]
      exact .inl rfl
  · have e : lineEnd s (lineTo s p) = lineTo s p := by unfold lineEnd; rw [if_neg hq]
    rw [e]
    exact .inr (.inr (.inr ⟨extract_empty s _, by omega⟩))

namespace textWhole
set_option maxHeartbeats 8000000 in
set_option maxRecDepth 100000 in
theorem walk (s : ByteArray) (hs : s.size ≤ maxLen) (w : World) :
    Calls Try.prog 4 #[.string s] w fun e w' => e = .returned (.bool true) ∧ Below w.heap.size w w' := by
  have C1 := Lib.hid (show (linesP ⟨#[97, 10, 10]⟩).length = 2 by rw [linesP_eq _ 3 rfl]; decide +kernel)
  have hll := linesP_len s
  unfold maxLen at hs
  by_cases hbig : 100000 < s.size
  · go_enter Try.func4, Try.ntmps4
    go_wp2_with fail
    refine (lines_any _ (by decide) _).mono ?_
    rintro e w1 ⟨⟨v, rfl, hown⟩, b1⟩
    obtain ⟨a, cap, rfl⟩ := (LinesAt.of_owns hown).shape
    rw [C1.out]
    go_wp2_with fail
    go_ret
    exact ⟨rfl, b1⟩
  · go_enter Try.func4, Try.ntmps4
    go_wp2_with fail
    refine (lines_any _ (by decide) _).mono ?_
    rintro e w1 ⟨⟨v, rfl, hown⟩, b1⟩
    obtain ⟨a, cap, rfl⟩ := (LinesAt.of_owns hown).shape
    rw [C1.out]
    have z1 := b1.size
    go_wp2_with fail
    refine (lines_any s (by omega) _).mono ?_
    rintro e w2 ⟨⟨v2, rfl, hown2⟩, b2⟩
    have z2 := b2.size
    have hb2 : Below w.heap.size w w2 := b1.trans (b2.mono z1)
    obtain ⟨a2, cap2, rfl, hc2, hr2⟩ := LinesAt.of_owns hown2
    have HR := Lib.hid hr2
    have HD := Lib.hid (linesFrom_drop s)
    have HE := Lib.hid (linesFrom_end s)
    have HC := Lib.hid (eol_cases s)
    have HN := Lib.hid (lineTo_no s)
    have B0 := lineTo_ge s
    have B1 := lineTo_le s
    have B2 := lineEnd_ge s
    have B3 := line_le s
    have B4 := line_gt s
    have HL := Lib.hid (show ∀ k p, (linesP s).drop k = linesFrom s p → p = s.size → (linesP s).length ≤ k by
      intro k p h1 h2
      rw [linesFrom_out s p (by omega)] at h1
      have := congrArg List.length h1
      rw [List.length_drop] at this; simp at this; omega)
    clear hown hown2 hr2
    go_wp2
    go_loopw [4, 5, 6, 7] (fun at_ i _ _ wr => ∃ (k p : Nat), k ≤ (linesP s).length ∧ p ≤ s.size ∧ i = .int .i64 k ∧ at_ = .int .i64 p ∧ (linesP s).drop k = linesFrom s p ∧ Below w.heap.size w wr ∧ Below w2.heap.size w2 wr) (fun _ i _ _ _ => (linesP s).length - (RowKit.intOf i).toNat)
    case atStart => exact ⟨0, 0, Nat.zero_le _, Nat.zero_le _, rfl, rfl, rfl, hb2, Below.refl _ _⟩
    case round =>
      obtain ⟨k, p, hk, hp, rfl, rfl, hdrop, hbw, hbw2⟩ := hrel
      have HDk := Lib.hid hdrop
      clear hdrop
      by_cases hlt : k < (linesP s).length
      · obtain ⟨hps, hline, hnext⟩ := HD.out p k HDk.out hlt
        have hne : linesP s ≠ [] := by intro e; rw [e] at hlt; simp at hlt
        obtain ⟨g, rfl, hg, hcell⟩ := HR.out hne
        obtain ⟨c0, c1, c2⟩ := hcell k hlt
        rw [hline] at c0 c1 c2
        dsimp only at c0 c1 c2
        have hcell2 : ∀ wx, Below w2.heap.size w2 wx → wx.cell? ⟨g, k * 3, none⟩ = some (.int .i64 p) ∧ wx.cell? ⟨g, k * 3 + 1, none⟩ = some (.int .i64 (lineTo s p)) ∧ wx.cell? ⟨g, k * 3 + 2, none⟩ = some (.int .i64 (lineEnd s (lineTo s p))) := by
          intro wx hx
          rw [hx.cell (p := ⟨g, k * 3, none⟩) hg, hx.cell (p := ⟨g, k * 3 + 1, none⟩) hg, hx.cell (p := ⟨g, k * 3 + 2, none⟩) hg]
          exact ⟨c0, c1, c2⟩
        clear c0 c1 c2
        obtain ⟨c0, c1, c2⟩ := hcell2 _ hbw2
        have hcs := HC.out p hps
        have HNp := Lib.hid (HN.out p)
        have q0 := B0 p
        have q1 := B1 p hp
        have q2 := B2 (lineTo s p)
        have q3 := B3 p hp
        have q4 := B4 p hps
        have HNx := Lib.hid hnext
        have HLx := Lib.hid (HL.out (k + 1) _ hnext)
        clear hcell B0 B1 B2 B3 B4 HC HN HD HR hline HL hnext
        generalize lineEnd s (lineTo s p) = r at *
        generalize lineTo s p = q at *
        have f0 : decide ((q : Int) < (p : Int)) = false := decide_eq_false (by omega)
        have f1 : decide ((r : Int) < (q : Int)) = false := decide_eq_false (by omega)
        have f2 : decide ((s.size : Int) < (r : Int)) = false := decide_eq_false (by omega)
        have f3 : ((r : Int) == (p : Int)) = false := by simp; omega
        have n0 : decide (q < p) = false := decide_eq_false (by omega)
        have n1 : decide (r < q) = false := decide_eq_false (by omega)
        have n2 : decide (s.size < r) = false := decide_eq_false (by omega)
        have n3 : (r == p) = false := by simp; omega
        have n4 : decide (r = p) = false := decide_eq_false (by omega)
        have i1 : (k : Int) < ((linesP s).length : Int) := by omega
        go_wp2
        go_quiet (fail)
        have hbw := below_drewN (n := nq) hbw
        have hbw2 := below_drewN (n := nq) hbw2
        generalize wr.drewN nq = wr2 at hbw hbw2 ⊢
        clear c0 c1 c2
        obtain ⟨c0, c1, c2⟩ := hcell2 wr2 hbw2
        go_wp2
        go_loopw [6] (fun jv wx => ∃ j : Nat, p ≤ j ∧ j ≤ q ∧ jv = .int .i64 j ∧ Below w.heap.size w wx ∧ Below w2.heap.size w2 wx) (fun jv _ => q - (RowKit.intOf jv).toNat)
        case atStart => exact ⟨p, Nat.le_refl _, q0, rfl, hbw, hbw2⟩
        case round =>
          obtain ⟨j, hj0, hj1, rfl, hbx, hbx2⟩ := hrel
          clear c0 c1 c2
          obtain ⟨c0, c1, c2⟩ := hcell2 _ hbx2
          by_cases hjq : j < q
          · have hje := HNp.out j hj0 hjq
            have hjs : j < s.size := by omega
            rw [bang_get s j hjs] at hje
            have hx : ¬ ((s[j]).toNat = 13 ∨ (s[j]).toNat = 10) := fun h => by
              rw [(isEol_iff _).2 h] at hje; cases hje
            have x1 : ((s[j].toNat : Int) == 10) = false := by simp; omega
            have x2 : ((s[j].toNat : Int) == 13) = false := by simp; omega
            have x3 : (s[j].toNat == 10) = false := by simp; omega
            have x4 : (s[j].toNat == 13) = false := by simp; omega
            go_wp2
            go_roundw
            case rel => exact ⟨j + 1, by omega, by omega, by go_num, hbx, hbx2⟩
            case measure => simp [RowKit.intOf]; omega
          · obtain rfl : j = q := by omega
            go_wp2
            go_quiet (fail)
            have hbx := below_drewN (n := nq) hbx
            have hbx2 := below_drewN (n := nq) hbx2
            generalize wr.drewN nq = wr3 at hbx hbx2 ⊢
            clear c0 c1 c2
            obtain ⟨c0, c1, c2⟩ := hcell2 wr3 hbx2
            rcases hcs with hx | hx | ⟨hx, h10⟩ | ⟨hx, hend⟩
            · rw [hx]
              go_wp2
              go_roundw
              case rel => exact ⟨k + 1, r, by omega, by omega, by go_num, rfl, HNx.out, hbx, hbx2⟩
              case measure => simp [RowKit.intOf]; omega
            · rw [hx]
              go_wp2
              go_roundw
              case rel => exact ⟨k + 1, r, by omega, by omega, by go_num, rfl, HNx.out, hbx, hbx2⟩
              case measure => simp [RowKit.intOf]; omega
            · rw [hx]
              by_cases hrs : r < s.size
              · have h11 := h10 hrs
                rw [bang_get s r hrs] at h11
                have x1 : ((s[r].toNat : Int) == 10) = false := by simp; omega
                have x3 : (s[r].toNat == 10) = false := by simp; omega
                go_wp2
                go_roundw
                case rel => exact ⟨k + 1, r, by omega, by omega, by go_num, rfl, HNx.out, hbx, hbx2⟩
                case measure => simp [RowKit.intOf]; omega
              · go_wp2
                go_roundw
                case rel => exact ⟨k + 1, r, by omega, by omega, by go_num, rfl, HNx.out, hbx, hbx2⟩
                case measure => simp [RowKit.intOf]; omega
            · rw [hx]
              have hk1 := HLx.out hend
              have x1 : ((k : Int) != ((linesP s).length : Int) - 1) = false := by simp; omega
              go_wp2
              go_roundw
              case rel => exact ⟨k + 1, r, by omega, by omega, by go_num, by rw [hend], HNx.out, hbx, hbx2⟩
              case measure => simp [RowKit.intOf]; omega
      · obtain rfl : k = (linesP s).length := by omega
        have hd := HDk.out
        rw [List.drop_length] at hd
        have hps := HE.out p hp hd.symm
        subst hps
        go_wp2
        go_ret
        exact ⟨ret_bool (by simp), hbw⟩
end textWhole
end Go.Proofs.Ytkomodicpfbkhaa
