/-
  strings.IndexRune of a character in "\r\n", and strings.IndexAny of any text for "\r\n". Conditions: a text of fewer than 4294967281 bytes.
-/
import Derived.Test.YtkomodicpfbkhaaDoorShelf
import Derived.Test.YtkomodicpfbkhaaDoorUtf
import Derived.Test.YtkomodicpfbkhaaDoorBase
import Derived.WalkKit
import Derived.Lib.Hide
import Derived.Lib.OthersKept
import Derived.Deep.QuietTactic
import Derived.Deep.LoopGhost
namespace Go.Proofs.YtkomodicpfbkhaaDoor
open Go.RowKit Go.Lib

set_option maxHeartbeats 2000000 in
set_option maxRecDepth 100000 in
theorem indexRune_crlf (r : Int) (hr : IsRune r) (h128 : 128 ≤ r) (w : World) : Calls Tryd.prog 56 #[.string ⟨#[13, 10]⟩, .int .i32 r] w fun e w' => e = .returned (.int .i64 (-1)) ∧ Below w.heap.size w w' := by
  have hvr : Lib.validRune r = true := by
    unfold IsRune at hr
    unfold Lib.validRune
    simp; omega
  have HS := Lib.hid (encode_shape r hr h128)
  unfold IsRune at hr
  have h1 : decide (r < 128) = false := by simp; omega
  by_cases he : r = 65533
  · subst he
    go_enter Tryd.func56, Tryd.ntmps56
    go_wp2
    go_loopg [4] 2 (fun g _ wx => ∃ i : Nat, i + g = 2 ∧ wx = w.iter ⟨#[13, 10]⟩ i)
    case atStart => exact ⟨0, rfl, rfl⟩
    case round =>
      obtain ⟨i, hi, rfl⟩ := hrel
      cases gk with
      | zero =>
        obtain rfl : i = 2 := by omega
        have hnx := run_next_end (P := Tryd.prog) w ⟨#[13, 10]⟩ 2
        go_wp2
        go_ret
        exact ⟨rfl, (Below.refl _ _).alloc (Nat.le_refl _) _⟩
      | succ g =>
        have hi2 : i = 0 ∨ i = 1 := by omega
        rcases hi2 with rfl | rfl
        · have hnx := fun ty => run_next_ascii (P := Tryd.prog) w ⟨#[13, 10]⟩ 0 ty (by decide) (by decide)
          have e : (⟨#[13, 10]⟩ : ByteArray)[0] = 13 := rfl
          rw [e] at hnx
          go_wp2
          go_roundg g
          case measure => omega
          case rel => exact ⟨1, by omega, rfl⟩
        · have hnx := fun ty => run_next_ascii (P := Tryd.prog) w ⟨#[13, 10]⟩ 1 ty (by decide) (by decide)
          have e : (⟨#[13, 10]⟩ : ByteArray)[1] = 10 := rfl
          rw [e] at hnx
          go_wp2
          go_roundg g
          case measure => omega
          case rel => exact ⟨2, by omega, rfl⟩
  · have hb : (r == 65533) = false := by simpa using he
    rcases HS.out with ⟨x, y, hxy, hy⟩ | ⟨h3, h4⟩
    · clear HS
      have CI : ∀ c w, Calls Tryd.prog 63 #[.string ByteArray.empty, .int .u8 c] w fun e w' => e = .returned (.int .i64 (-1)) ∧ w' = w := fun c w => by
        refine (Tryd.strings_IndexByte _ _ _).mono ?_
        rintro e w1 ⟨rfl, hw⟩
        exact ⟨rfl, hw⟩
      have hne : (((⟨#[13, 10]⟩ : ByteArray)[1].toNat : Int) != (((⟨#[x, y]⟩ : ByteArray)[1]'(Nat.lt_succ_self 1)).toNat : Int)) = true := by show ((10 : Int) != (y.toNat : Int)) = true; simp; omega
      have hwr : IntKind.i64.wrap 2 = 2 := rfl
      go_enter Tryd.func56, Tryd.ntmps56
      go_wp2_with (go_at_call 64; go_loud (refine (Tryd.utf8_ValidRune _ _).mono ?_; rintro e w1 ⟨rfl, hw1⟩; rw [hw1, hvr]))
      go_step3
      go_wp2
      go_loopw [9] (fun i wx => wx = w ∧ i = .int .i64 1) (fun _ _ => 0)
      case atStart => exact ⟨rfl, rfl⟩
      case round =>
        obtain ⟨rfl, rfl⟩ := hrel
        go_wp2
        go_step3
        go_wp2
        go_quiet (fail)
        have hb2 := below_drewN (n := nq) (Below.refl wr.heap.size wr)
        generalize wr.drewN nq = w2 at hb2 ⊢
        go_wp2
        go_quiet ((go_at_call 63; refine Calls.quiet_of_same (CI _ _)))
        go_wp2
        rw [Exit.noGoto_ret]
        simp +zetaDelta only [Exit.inBlock, Exit.then, Exit.noGoto]
        go_ret
        exact ⟨rfl, below_drewN hb2⟩
    · clear HS
      go_enter Tryd.func56, Tryd.ntmps56
      go_wp2_with (go_at_call 64; go_loud (refine (Tryd.utf8_ValidRune _ _).mono ?_; rintro e w1 ⟨rfl, hw1⟩; rw [hw1, hvr]))
      go_step3
      go_wp2
      go_loopw [9] (fun i wx => wx = w ∧ i = .int .i64 ((Utf8.encode r).size - 1)) (fun _ _ => 0)
      case atStart => exact ⟨rfl, rfl⟩
      case round =>
        obtain ⟨rfl, rfl⟩ := hrel
        go_wp2
        rw [Exit.noGoto_ret]
        go_ret
        exact ⟨rfl, Below.refl _ _⟩

theorem noAny_go {s : ByteArray} {chars : List UInt8} {i k : Nat} (h : NoAny s.data.toList chars i) (hk : ∀ j, j < k → chars.contains (s.get! (i + j)) = false) : NoAny s.data.toList chars (i + k) := by
  intro j b hj hb
  by_cases hlt : j < i
  · exact h j b hlt hb
  · have hjs : j < s.data.toList.length := by
      rcases Nat.lt_or_ge j s.data.toList.length with h | h
      · exact h
      · rw [List.getElem?_eq_none h] at hb; cases hb
    have := hk (j - i) (by omega)
    have e : i + (j - i) = j := by omega
    rw [e] at this
    have hbb : s.get! j = b := by
      rw [List.getElem?_eq_getElem hjs] at hb
      have hjs' : j < s.size := by simpa using hjs
      rw [bang_get s j hjs']
      exact Option.some.inj hb
    rw [← hbb]; exact this

theorem crlf_high {b : UInt8} (h : 128 ≤ b.toNat) : ([13, 10] : List UInt8).contains b = false := by
  have h1 : ¬ b = 13 := by rintro rfl; revert h; decide
  have h2 : ¬ b = 10 := by rintro rfl; revert h; decide
  simp [h1, h2]

theorem data_get (s : ByteArray) (p : Nat) (hp : p < s.size) : s.data.toList[p]? = some (s.get! p) := by
  have hp' : p < s.data.toList.length := by simpa using hp
  rw [List.getElem?_eq_getElem hp', bang_get s p hp]; rfl

set_option maxHeartbeats 2000000 in
set_option maxRecDepth 100000 in
/-- strings.IndexAny of a short text for CR and LF. -/
theorem indexAny_crlf_short (s : ByteArray) (h8 : s.size ≤ 8) (w : World) : Calls Tryd.prog 48 #[.string s, .string ⟨#[13, 10]⟩] w fun e w' => e = .returned (.int .i64 (Lib.indexAny s.data.toList [13, 10])) ∧ Below w.heap.size w w' := by
  have h8z : decide ((8 : Int) < (s.size : Int)) = false := decide_eq_false (by omega)
  go_enter Tryd.func48, Tryd.ntmps48
  go_wp2_with (go_at_call 57; refine (Tryd.strings_shouldUseASCIISet _ _).mono ?_; rintro e w' ⟨rfl, hw⟩; rw [hw, h8z])
  go_loopw [9, 10] (fun _ _ wr => ∃ i : Nat, i ≤ s.size ∧ wr.heap[w.heap.size]? = some (.stringIter s i) ∧ Below w.heap.size w wr ∧ NoAny s.data.toList [13, 10] i) (fun _ _ wr => s.size - wr.iterPos w.heap.size)
  case atStart => 
    refine ⟨0, Nat.zero_le _, ?_, (Below.refl _ w).alloc (Nat.le_refl _) _, NoAny.zero _ _⟩
    exact World.iter_heap w s 0
  case round =>
    obtain ⟨i, hi, hit, hb, hno⟩ := hrel
    have HN := Lib.hid hno
    clear hno
    have hsz : w.heap.size < wr.heap.size := (Array.getElem?_eq_some_iff.1 hit).1
    by_cases hp : i < s.size
    · have hnx : ∀ ty, (Instr.next (.pointer (some ⟨w.heap.size, 0, none⟩)) true ty).run Tryd.prog wr = _ := fun ty => Lib.run_next_any_at wr w.heap.size s i ty hit hp
      have hwd := width_at s i
      have hde := decode_end s i hp
      have hit2 := Lib.iterAt_heap wr w.heap.size s i (i + (Utf8.decode s i).2) hit
      have hbw2 := Lib.below_iterAt hb (k := w.heap.size) (by omega) s (i + (Utf8.decode s i).2)
      have hsz2 : w.heap.size ≤ (wr.iterAt w.heap.size s (i + (Utf8.decode s i).2)).heap.size := by rw [Lib.iterAt_size]; omega
      by_cases hlo : (Utf8.decode s i).1 < 128
      · obtain ⟨d1, d2, d3⟩ := decode_byte s i hlo
        rw [d1, d2] at hnx
        rw [d2] at hit2 hbw2 hsz2
        have hcon := Lib.contains_iff_indexByte [13, 10] (s.get! i)
        have hback : ((((s.get! i).toNat : Nat) : Int)).toNat.toUInt8 = s.get! i := by simp
        have HD := Lib.hid (data_get s i hp)
        clear hwd hde hlo d1 d2
        generalize s.get! i = x at *
        cases hin : ([13, 10] : List UInt8).contains x
        · rw [hin] at hcon
          have hlt : ¬ ((0 : Int) ≤ Lib.indexByte [13, 10] x) := of_decide_eq_false hcon.symm
          clear hcon
          go_wp2_with (go_at_call 56; refine (Tryd.strings_IndexRune_ascii _ _ _ (by omega) (by omega)).mono ?_; rintro e w' ⟨rfl, hw⟩; rw [hw, hback])
          go_roundw
          case rel => exact ⟨i + 1, by omega, hit2, hbw2, HN.out.succ HD.out hin⟩
          case measure => simp only [World.iterPos, hit2, hit]; omega
        · rw [hin] at hcon
          have hge : (0 : Int) ≤ Lib.indexByte [13, 10] x := of_decide_eq_true hcon.symm
          clear hcon
          go_wp2_with (go_at_call 56; refine (Tryd.strings_IndexRune_ascii _ _ _ (by omega) (by omega)).mono ?_; rintro e w' ⟨rfl, hw⟩; rw [hw, hback])
          go_ret
          exact ⟨by rw [Lib.indexAny_hit HN.out HD.out hin]; rfl, hbw2⟩
      · have hr := decodeL_isRune (s.data.toList.drop i)
        rw [← decode_drop] at hr
        have hhi := decode_high s i (by omega)
        go_wp2_with (go_at_call 56; refine (indexRune_crlf _ hr (by omega) _).mono ?_; rintro e w2 ⟨rfl, b2⟩)
        have hit3 := (b2.block w.heap.size (by have := (Array.getElem?_eq_some_iff.1 hit2).1; omega)).trans hit2
        go_roundw
        case rel => exact ⟨i + (Utf8.decode s i).2, by omega, hit3, hbw2.trans (b2.mono (by omega)), noAny_go HN.out fun j hj => crlf_high (hhi j hj)⟩
        case measure => simp only [World.iterPos, hit3, hit]; omega
    · have hnx : ∀ ty, (Instr.next (.pointer (some ⟨w.heap.size, 0, none⟩)) true ty).run Tryd.prog wr = _ := fun ty => Lib.run_next_end_at wr w.heap.size s i ty hit hp
      go_wp2
      go_ret
      obtain rfl : i = s.size := by omega
      exact ⟨by rw [Lib.indexAny_none (by rw [← Lib.size_eq]; exact HN.out)]; rfl, hb⟩

theorem crlf_zero : ∀ w, (zeroValue 83).run Tryd.prog w = .ok (.agg (Array.replicate 256 (.bool false))) w := (zero_of_info (n := 256) (by kernel_rfl)).1

/-- strings.IndexAny of a text for CR and LF. -/
theorem indexAny_crlf (s : ByteArray) (hs : s.size < 4294967281) (w : World) : Calls Tryd.prog 48 #[.string s, .string ⟨#[13, 10]⟩] w fun e w' => e = .returned (.int .i64 (Lib.indexAny s.data.toList [13, 10])) ∧ Below w.heap.size w w' := by
  by_cases h8 : s.size ≤ 8
  · exact indexAny_crlf_short s h8 w
  · refine (Tryd.strings_IndexAny_long crlf_zero s ⟨#[13, 10]⟩ w (by decide) (by omega) hs (by decide) ?_).mono ?_
    · intro j b hb
      have : j = 0 ∨ j = 1 ∨ 2 ≤ j := by omega
      rcases this with rfl | rfl | h2
      · cases hb; decide
      · cases hb; decide
      · rw [List.getElem?_eq_none (by simpa using h2)] at hb; cases hb
    · rintro e w' ⟨rfl, rfl⟩
      exact ⟨rfl, ((Below.refl _ w).alloc (Nat.le_refl _) _).alloc (by simp) _⟩
end Go.Proofs.YtkomodicpfbkhaaDoor
