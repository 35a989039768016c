/-
  text.Lines: a text's lines. Conditions: fewer than 4294967281 bytes; the row's room.
-/
import Derived.Test.YtkomodicpfbkhaaDoorLinesP
import Derived.Test.YtkomodicpfbkhaaDoorIndexAny
import Derived.Test.YtkomodicpfbkhaaDoorBase
import Derived.Lib.AppendStr
import Derived.WalkKit
import Derived.BigCall
namespace Go.Proofs.YtkomodicpfbkhaaDoor
open Go.RowKit Go.Lib

theorem infoLine : (Tryd.prog.info? 58).map (fun i => (i.zero, i.size, i.bytes)) = some (some (.agg #[.int .i64 0, .int .i64 0, .int .i64 0]), 3, 24) := by kernel_rfl
set_option maxHeartbeats 4000000 in
set_option maxRecDepth 1000000 in
theorem lines_any (s : ByteArray) (hs : s.size ≤ 1000000) (w : World) :
    Calls Tryd.prog 34 #[.string s] w fun e w' => (∃ v, e = .returned v ∧ w'.ownsRow w.heap.size 58 3 v (linesP s).length (lineCells (linesP s))) ∧ Below w.heap.size w w' := by
  obtain ⟨i0, hi, hz0, hz1, hz2⟩ := info_parts infoLine
  go_enter Tryd.func34, Tryd.ntmps34
  go_wp2_with fail
  go_loopw [3, 4, 5, 6] (fun out from_ _ _ wr => ∃ (p : Nat) (acc : List LineP), p ≤ s.size ∧ from_ = .int .i64 p ∧ wr.ownsRow w.heap.size 58 3 out acc.length (lineCells acc) ∧ Below w.heap.size w wr ∧ acc ++ linesFrom s p = linesP s ∧ acc.length ≤ p) (fun _ from_ _ _ _ => s.size - (RowKit.intOf from_).toNat)
  case atStart => exact ⟨0, [], Nat.zero_le _, rfl, ⟨rfl, .inl ⟨rfl, rfl⟩⟩, Below.refl _ _, rfl, by simp⟩
  case round =>
    obtain ⟨p, acc, hp, rfl, hown, hb, hacc, hal⟩ := hrel
    have HA := Lib.hid hacc
    clear hacc
    by_cases hlt : p < s.size
    · have HI := Lib.hid (index_to s p hp)
      have HL := Lib.hid (linesFrom_in s p hlt)
      have hge := lineTo_ge s p
      have hle := lineTo_le s p hp
      have hts := tail_size s p hp
      have hbA := (hb.alloc hb.size (.cells #[.int .i64 p, .int .i64 s.size, .int .i64 s.size] 58))
      have hownA := hown.alloc (.cells #[.int .i64 p, .int .i64 s.size, .int .i64 s.size] 58)
      go_wp2_with fail
      refine (indexAny_crlf _ (by rw [hts]; omega) _).mono ?_
      rintro e w1 ⟨rfl, b1⟩
      rw [HI.out]
      have hB1 : w1.heap[wr.heap.size]? = some (.cells #[.int .i64 p, .int .i64 s.size, .int .i64 s.size] 58) := (b1.block _ (by simp)).trans (heap_alloc_new wr _)
      obtain ⟨hc0, hc1, hc2, hf0, hf1, hf2⟩ := block_three hB1
      have hbL : Below wr.heap.size wr w1 := ((Below.refl _ wr).alloc (Nat.le_refl _) _).trans (b1.mono (by simp))
      by_cases hto : lineTo s p < s.size
      · rw [if_pos hto]
        have HE := Lib.hid (show lineEnd s (lineTo s p) = if crlfAt s (lineTo s p) then lineTo s p + 2 else lineTo s p + 1 by unfold lineEnd; rw [if_pos hto])
        generalize lineTo s p = q at *
        obtain ⟨m, rfl⟩ : ∃ m, q = p + m := ⟨q - p, by omega⟩
        rw [Nat.add_sub_cancel_left]
        have HP := Lib.hid (prefix_crlf s (p + m) hto)
        go_wp2_with fail
        refine (Tryd.strings_HasPrefix _ _ _).mono ?_
        rintro e w2 ⟨rfl, hw2⟩
        subst hw2
        rw [HP.out]
        generalize crlfAt s (p + m) = cr at *
        cases cr
        · have HE2 := Lib.hid (show lineEnd s (p + m) = p + m + 1 by rw [HE.out]; rfl)
          have hXL : Below wr.heap.size wr ((w1.setCell ⟨wr.heap.size, 1, none⟩ (.int .i64 ((p : Int) + m))).setCell ⟨wr.heap.size, 2, none⟩ (.int .i64 ((p : Int) + m + 1))) := (hbL.setCell (Nat.le_refl _) _).setCell (Nat.le_refl _) _
          have hownB := ownsRow_below hown hXL
          have hbB : Below w.heap.size w ((w1.setCell ⟨wr.heap.size, 1, none⟩ (.int .i64 ((p : Int) + m))).setCell ⟨wr.heap.size, 2, none⟩ (.int .i64 ((p : Int) + m + 1))) := hb.trans (hXL.mono hb.size)
          have hsz := hbB.size
          have hXs := (Array.getElem?_eq_some_iff.1 hB1).1
          have hws := hb.size
          have hBX := set_third (x := .int .i64 ((p : Int) + m + 1)) (set_second (x := .int .i64 ((p : Int) + m)) hB1)
          obtain ⟨hx0, hx1, hx2, _, _, _⟩ := block_three hBX
          go_wp2_with (at_builtin; (refine wpList_append_own _ rfl _ _ 54 rfl w.heap.size 58 i0 (.agg #[.int .i64 0, .int .i64 0, .int .i64 0]) 3 24 Tryd.underlying54 hi hz0 hz1 hz2 rfl (by decide) _ _ _ rfl (hownB.alloc _) ⟨w1.heap.size, 0, none⟩ 1 1 [.int .i64 p, .int .i64 ((p : Int) + m), .int .i64 ((p : Int) + m + 1)] rfl rfl (new_three' _ _ _ _ _ _ (by simp)) (one_three _ _ _) (by unfold maxLen; omega) (by omega) (by first | omega | (simp; omega)) ?_); intro v' w2 hown' hgrow _; have hB2 : w2.heap[wr.heap.size]? = some (.cells #[.int .i64 p, .int .i64 ((p : Int) + m), .int .i64 ((p : Int) + m + 1)] 58) := (hgrow.block _ (by first | omega | (simp; omega)) (fun e => by have := (ownsRow_lt hown e.symm).2; omega)).trans ((Below.heap_alloc _ _ _ (by first | omega | (simp; omega))).trans hBX); obtain ⟨hd0, hd1, hd2, _, _, _⟩ := block_three hB2)
          go_roundw
          case rel =>
            refine ⟨p + m + 1, acc ++ [⟨p, p + m, p + m + 1⟩], by omega, by go_num, ?_, (hbB.alloc hsz _).grown hgrow (by first | omega | (simp; omega)) (fun k hk => (ownsRow_lt hown hk).1), ?_, by simp; omega⟩
            · rw [lineCells_append, List.length_append]; exact hown'
            · rw [← HA.out, HL.out, HE2.out]; simp
          case measure => simp [RowKit.intOf]; omega
        · have HE2 := Lib.hid (show lineEnd s (p + m) = p + m + 2 by rw [HE.out]; rfl)
          have hlt2 : p + m + 2 ≤ s.size := by have := lineEnd_le s (p + m) (by omega); rw [HE2.out] at this; exact this
          have hXL : Below wr.heap.size wr (((w1.setCell ⟨wr.heap.size, 1, none⟩ (.int .i64 ((p : Int) + m))).setCell ⟨wr.heap.size, 2, none⟩ (.int .i64 ((p : Int) + m + 1))).setCell ⟨wr.heap.size, 2, none⟩ (.int .i64 ((p : Int) + m + 1 + 1))) := ((hbL.setCell (Nat.le_refl _) _).setCell (Nat.le_refl _) _).setCell (Nat.le_refl _) _
          have hownB := ownsRow_below hown hXL
          have hbB : Below w.heap.size w (((w1.setCell ⟨wr.heap.size, 1, none⟩ (.int .i64 ((p : Int) + m))).setCell ⟨wr.heap.size, 2, none⟩ (.int .i64 ((p : Int) + m + 1))).setCell ⟨wr.heap.size, 2, none⟩ (.int .i64 ((p : Int) + m + 1 + 1))) := hb.trans (hXL.mono hb.size)
          have hsz := hbB.size
          have hXs := (Array.getElem?_eq_some_iff.1 hB1).1
          have hws := hb.size
          have hBX := set_third (x := .int .i64 ((p : Int) + m + 1 + 1)) (set_third (x := .int .i64 ((p : Int) + m + 1)) (set_second (x := .int .i64 ((p : Int) + m)) hB1))
          obtain ⟨hx0, hx1, hx2, _, _, _⟩ := block_three hBX
          go_wp2_with (at_builtin; (refine wpList_append_own _ rfl _ _ 54 rfl w.heap.size 58 i0 (.agg #[.int .i64 0, .int .i64 0, .int .i64 0]) 3 24 Tryd.underlying54 hi hz0 hz1 hz2 rfl (by decide) _ _ _ rfl (hownB.alloc _) ⟨w1.heap.size, 0, none⟩ 1 1 [.int .i64 p, .int .i64 ((p : Int) + m), .int .i64 ((p : Int) + m + 1 + 1)] rfl rfl (new_three' _ _ _ _ _ _ (by simp)) (one_three _ _ _) (by unfold maxLen; omega) (by omega) (by first | omega | (simp; omega)) ?_); intro v' w2 hown' hgrow _; have hB2 : w2.heap[wr.heap.size]? = some (.cells #[.int .i64 p, .int .i64 ((p : Int) + m), .int .i64 ((p : Int) + m + 1 + 1)] 58) := (hgrow.block _ (by first | omega | (simp; omega)) (fun e => by have := (ownsRow_lt hown e.symm).2; omega)).trans ((Below.heap_alloc _ _ _ (by first | omega | (simp; omega))).trans hBX); obtain ⟨hd0, hd1, hd2, _, _, _⟩ := block_three hB2)
          go_roundw
          case rel =>
            refine ⟨p + m + 2, acc ++ [⟨p, p + m, p + m + 2⟩], by omega, by go_num, ?_, (hbB.alloc hsz _).grown hgrow (by first | omega | (simp; omega)) (fun k hk => (ownsRow_lt hown hk).1), ?_, by simp; omega⟩
            · rw [lineCells_append, List.length_append]; exact hown'
            · rw [← HA.out, HL.out, HE2.out]; simp
          case measure => simp [RowKit.intOf]; omega
      · rw [if_neg hto]
        have hq : lineTo s p = s.size := by omega
        have HE := Lib.hid (show lineEnd s s.size = s.size by unfold lineEnd; rw [if_neg (by omega)])
        rw [hq] at HL
        · have hXL := hbL
          have hownB := ownsRow_below hown hXL
          have hbB : Below w.heap.size w (w1) := hb.trans (hXL.mono hb.size)
          have hsz := hbB.size
          have hXs := (Array.getElem?_eq_some_iff.1 hB1).1
          have hws := hb.size
          have hBX := hB1
          obtain ⟨hx0, hx1, hx2, _, _, _⟩ := block_three hBX
          go_wp2_with (at_builtin; (refine wpList_append_own _ rfl _ _ 54 rfl w.heap.size 58 i0 (.agg #[.int .i64 0, .int .i64 0, .int .i64 0]) 3 24 Tryd.underlying54 hi hz0 hz1 hz2 rfl (by decide) _ _ _ rfl (hownB.alloc _) ⟨w1.heap.size, 0, none⟩ 1 1 [.int .i64 p, .int .i64 s.size, .int .i64 s.size] rfl rfl (new_three' _ _ _ _ _ _ (by simp)) (one_three _ _ _) (by unfold maxLen; omega) (by omega) (by first | omega | (simp; omega)) ?_); intro v' w2 hown' hgrow _; have hB2 : w2.heap[wr.heap.size]? = some (.cells #[.int .i64 p, .int .i64 s.size, .int .i64 s.size] 58) := (hgrow.block _ (by first | omega | (simp; omega)) (fun e => by have := (ownsRow_lt hown e.symm).2; omega)).trans ((Below.heap_alloc _ _ _ (by first | omega | (simp; omega))).trans hBX); obtain ⟨hd0, hd1, hd2, _, _, _⟩ := block_three hB2)
          go_roundw
          case rel =>
            refine ⟨s.size, acc ++ [⟨p, s.size, s.size⟩], by omega, by go_num, ?_, (hbB.alloc hsz _).grown hgrow (by first | omega | (simp; omega)) (fun k hk => (ownsRow_lt hown hk).1), ?_, by simp; omega⟩
            · rw [lineCells_append, List.length_append]; exact hown'
            · rw [← HA.out, HL.out, HE.out]; simp
          case measure => simp [RowKit.intOf]; omega
    · go_wp2
      go_ret
      have hacc := HA.out
      rw [linesFrom_out s p hlt, List.append_nil] at hacc
      subst hacc
      exact ⟨⟨_, rfl, hown⟩, hb⟩
end Go.Proofs.YtkomodicpfbkhaaDoor
