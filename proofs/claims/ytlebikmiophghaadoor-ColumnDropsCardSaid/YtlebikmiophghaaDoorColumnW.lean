/-
  column.Width, Indent and Drop: what they answer. Conditions: texts of at most 1000000 bytes; a column from 0 on below 2000000000.
-/
import Derived.Test.YtlebikmiophghaaDoorColumnP
import Derived.Test.YtlebikmiophghaaDoorBase
import Derived.Test.YtlebikmiophghaaDoorShelf
import Derived.Shelf.Strings.SlTrimAscii
namespace Go.Proofs.YtlebikmiophghaaDoor
open Go.RowKit Go.Lib

set_option maxHeartbeats 1000000 in
theorem next_any (b : UInt8) (c : Int) (h0 : 0 ≤ c) (h1 : c ≤ 4000000000000) (w : World) : Calls Tryd.prog 44 #[.int .u8 b.toNat, .int .i64 c] w fun e w' => e = .returned (.int .i64 (nextC c b)) ∧ w = w' := by
  by_cases h : b = 9
  · subst h
    have e : nextC c 9 = c / 4 * 4 + 4 := by unfold nextC; rw [if_pos rfl]
    rw [e]
    go_enter Tryd.func44, Tryd.ntmps44
    go_wp2
    go_ret
    exact ⟨rfl, rfl⟩
  · have e : nextC c b = c + 1 := by unfold nextC; rw [if_neg h]
    rw [e]
    have x0 : b.toNat ≠ 9 := fun hc => h (by rw [← UInt8.toNat_inj]; exact hc)
    have x1 : ((b.toNat : Int) == 9) = false := by simp; omega
    have x2 : (b.toNat == 9) = false := by simp; omega
    go_enter Tryd.func44, Tryd.ntmps44
    go_wp2
    go_ret
    exact ⟨rfl, rfl⟩

set_option maxHeartbeats 1000000 in
theorem begin_any (c : Int) (w : World) : Calls Tryd.prog 43 #[.int .i64 c] w fun e w' => e = .returned (.int .i64 (beginC c)) ∧ w = w' := by
  go_enter Tryd.func43, Tryd.ntmps43
  go_wp2
  go_ret
  exact ⟨ret_int (by unfold beginC; omega), rfl⟩

theorem take_next (s : ByteArray) (k : Nat) (hk : k < s.size) (c : Int) : nextC (colEnd (s.data.toList.take k) c) s[k] = colEnd (s.data.toList.take (k + 1)) c := by
  have h2 : k < s.data.toList.length := by simpa using hk
  rw [colEnd_take _ k h2]; rfl

set_option maxHeartbeats 2000000 in
theorem width_any (s : ByteArray) (hs : s.size ≤ 1000000) (c : Int) (w : World) : Calls Tryd.prog 21 #[.string s, .int .i64 c] w fun e w' => e = .returned (.int .i64 (colEnd s.data.toList (beginC c) - beginC c)) ∧ w = w' := by
  have hB := beginC_bound c
  generalize hc0 : beginC c = c0 at *
  go_enter Tryd.func21, Tryd.ntmps21
  go_wp2_with fail
  refine (begin_any _ _).mono ?_
  rintro e w1 ⟨rfl, hw⟩
  subst hw
  rw [hc0]
  go_wp2_with fail
  go_loopw [5, 6, 12] (fun at_ _ i wr => ∃ k : Nat, k ≤ s.size ∧ i = .int .i64 k ∧ at_ = .int .i64 (colEnd (s.data.toList.take k) c0) ∧ w = wr) (fun _ _ i _ => s.size - (RowKit.intOf i).toNat)
  case atStart => exact ⟨0, Nat.zero_le _, rfl, rfl, rfl⟩
  case round =>
    obtain ⟨k, hk, rfl, rfl, rfl⟩ := hrel
    by_cases hlt : k < s.size
    · have hb := colEnd_bound (s.data.toList.take k) c0
      have hl : (s.data.toList.take k).length ≤ k := by rw [List.length_take]; omega
      have HT := Lib.hid (take_next s k hlt c0)
      generalize colEnd (s.data.toList.take k) c0 = x at *
      go_wp2_with fail
      refine (next_any s[k] x (by omega) (by omega) _).mono ?_
      rintro e w1 ⟨rfl, hw⟩
      subst hw
      rw [HT.out]
      go_wp2_with fail
      go_roundw
      case rel => exact ⟨k + 1, by omega, by go_num, rfl, trivial⟩
      case measure => simp [RowKit.intOf]; omega
    · have e : s.data.toList.take k = s.data.toList := List.take_of_length_le (by have e2 : s.data.size = s.size := rfl; simp; omega)
      rw [e]
      have hb := colEnd_bound s.data.toList c0
      have hl : s.data.toList.length = s.size := Array.length_toList
      go_wp2
      go_ret
      exact ⟨rfl, rfl⟩

theorem dropWhile_contains (l : List UInt8) : Lib.trimLeftS l [32, 9] = l.dropWhile isInd := by
  unfold Lib.trimLeftS
  congr 1
  funext b
  unfold isInd
  simp [List.contains, List.elem]
  cases h1 : b == 32 <;> cases h2 : b == 9 <;> rfl

set_option maxHeartbeats 1000000 in
theorem trimLeft_any (s : ByteArray) (w : World) : Calls Tryd.prog 42 #[.string s, .string ⟨#[32, 9]⟩] w fun e w' => e = .returned (.string ⟨(s.data.toList.dropWhile isInd).toArray⟩) ∧ Below w.heap.size w w' := by
  have hcon := Any.strings_TrimLeft_laid Tryd.lays161 (by kernel_rfl) s ⟨#[32, 9]⟩ w (by decide) (ascii_of_all (by decide))
  change Calls Tryd.prog 42 _ _ (fun e w' => e = .returned (.string ⟨(Lib.trimLeftS s.data.toList [32, 9]).toArray⟩) ∧ Below w.heap.size w w') at hcon
  rw [dropWhile_contains] at hcon
  exact hcon

theorem dropWhile_size (s : ByteArray) : (⟨(s.data.toList.dropWhile isInd).toArray⟩ : ByteArray).size = s.size - (indL s.data.toList).length := by
  have h := congrArg List.length (indL_split s.data.toList)
  rw [List.length_append] at h
  have e2 : s.data.toList.length = s.size := Array.length_toList
  show (s.data.toList.dropWhile isInd).toArray.size = _
  rw [List.size_toArray]; omega

theorem indent_head (s : ByteArray) : (s.extract 0 (indL s.data.toList).length).data.toList = indL s.data.toList := by
  rw [extract_data, Nat.sub_zero, List.drop_zero, indL_take]

theorem ret_pair {a b c d : Int} (h1 : a = c) (h2 : b = d) : Ending.returned (.tuple #[.int .i64 a, .int .i64 b]) = .returned (.tuple #[.int .i64 c, .int .i64 d]) := by rw [h1, h2]
theorem ret_triple {a b c a' b' c' : Int} (h1 : a = a') (h2 : b = b') (h3 : c = c') : Ending.returned (.tuple #[.int .i64 a, .int .i64 b, .int .i64 c]) = .returned (.tuple #[.int .i64 a', .int .i64 b', .int .i64 c']) := by rw [h1, h2, h3]

set_option maxHeartbeats 2000000 in
theorem indent_any (s : ByteArray) (hs : s.size ≤ 1000000) (c : Int) (w : World) : Calls Tryd.prog 19 #[.string s, .int .i64 c] w fun e w' => e = .returned (.tuple #[.int .i64 (colEnd (indL s.data.toList) (beginC c) - beginC c), .int .i64 (indL s.data.toList).length]) ∧ Below w.heap.size w w' := by
  have hle := indL_le s.data.toList
  have e2 : s.data.toList.length = s.size := Array.length_toList
  have HZ := Lib.hid (dropWhile_size s)
  have HH := Lib.hid (indent_head s)
  go_enter Tryd.func19, Tryd.ntmps19
  go_wp2_with fail
  refine (trimLeft_any _ _).mono ?_
  rintro e w1 ⟨rfl, b1⟩
  have hz := HZ.out
  generalize (⟨(s.data.toList.dropWhile isInd).toArray⟩ : ByteArray) = t at *
  generalize hm : (indL s.data.toList).length = m at *
  have hn : s.size - t.size = m := by omega
  have hts : t.size ≤ s.size := by omega
  clear hz HZ
  go_wp2_with fail
  refine (width_any (s.extract 0 m) (by rw [ByteArray.size_extract]; omega) c _).mono ?_
  rintro e w2 ⟨rfl, hw2⟩
  subst hw2
  rw [HH.out]
  go_wp2_with fail
  go_ret2
  have e3 : ((s.size : Int) - (t.size : Int)) = (m : Int) := by omega
  exact ⟨ret_pair rfl (by rw [hm]; exact e3), b1⟩

/-- The columns left of a byte that is dropped in part. -/
def leftOf (l : List UInt8) (c stop : Int) (g : Nat) : Int := if colEnd ((indL l).take g) c < stop then nextC (colEnd ((indL l).take g) c) (l.getD g 0) - stop else 0

set_option maxHeartbeats 4000000 in
theorem drop_any (s : ByteArray) (hs : s.size ≤ 1000000) (c : Int) (n : Int) (hn0 : -9223372036854775808 ≤ n) (hn1 : n ≤ 9223372036854775807) (w : World) : Calls Tryd.prog 20 #[.string s, .int .i64 c, .int .i64 n] w fun e w' => (∃ g : Nat, DropAt s.data.toList (beginC c) (beginC c + max 0 (min n (colEnd (indL s.data.toList) (beginC c) - beginC c))) g ∧
      e = .returned (.tuple #[.int .i64 g, .int .i64 (beginC c + max 0 (min n (colEnd (indL s.data.toList) (beginC c) - beginC c))), .int .i64 (leftOf s.data.toList (beginC c) (beginC c + max 0 (min n (colEnd (indL s.data.toList) (beginC c) - beginC c))) g)])) ∧ Below w.heap.size w w' := by
  have hB := beginC_bound c
  have hI := fun w => indent_any s hs (beginC c) w
  have hbb : beginC (beginC c) = beginC c := beginC_id _ hB.1 hB.2
  rw [hbb] at hI
  clear hbb
  generalize hc0 : beginC c = c0 at *
  have hle := indL_le s.data.toList
  have e2 : s.data.toList.length = s.size := Array.length_toList
  have hall := colEnd_bound (indL s.data.toList) c0
  generalize hA : colEnd (indL s.data.toList) c0 - c0 = all at *
  have HL := Lib.hid hle
  have hm0 : 0 ≤ max 0 (min n all) := by omega
  have hm1 : max 0 (min n all) ≤ 4000000 := by omega
  generalize hM : max 0 (min n all) = mm at *
  go_enter Tryd.func20, Tryd.ntmps20
  go_wp2_with fail
  refine (begin_any _ _).mono ?_
  rintro e w1 ⟨rfl, hw⟩
  subst hw
  rw [hc0]
  go_wp2_with fail
  refine (hI _).mono ?_
  rintro e w2 ⟨rfl, b2⟩
  go_wp2_with fail
  have hll : (indL s.data.toList).length ≤ s.size := by omega
  go_loopw [1, 12, 13] (fun cv gv _ wr => ∃ g : Nat, g ≤ (indL s.data.toList).length ∧ gv = .int .i64 g ∧ cv = .int .i64 (colEnd ((indL s.data.toList).take g) c0) ∧ colEnd ((indL s.data.toList).take g) c0 ≤ c0 + mm ∧ w2 = wr) (fun _ gv _ _ => (indL s.data.toList).length - (RowKit.intOf gv).toNat)
  case atStart => exact ⟨0, Nat.zero_le _, rfl, rfl, by simp [colEnd]; omega, rfl⟩
  case round =>
    obtain ⟨g, hg, rfl, rfl, hat, rfl⟩ := hrel
    by_cases hlt : g < (indL s.data.toList).length
    · have hgs : g < s.size := by omega
      have hgl : g < s.data.toList.length := by omega
      have HT := Lib.hid (show nextC (colEnd ((indL s.data.toList).take g) c0) s[g] = colEnd ((indL s.data.toList).take (g + 1)) c0 by
        rw [colEnd_take _ g hlt, indL_get _ g hlt hgl]; rfl)
      have HG := Lib.hid (show s.data.toList.getD g 0 = s[g] by rw [List.getD_eq_getElem?_getD, List.getElem?_eq_getElem hgl]; rfl)
      have hb := colEnd_bound ((indL s.data.toList).take g) c0
      generalize hx : colEnd ((indL s.data.toList).take g) c0 = x at *
      go_wp2_with fail
      refine (next_any s[g] x (by omega) (by omega) _).mono ?_
      rintro e w3 ⟨rfl, hw3⟩
      subst hw3
      have hnb := nextC_bound x s[g]
      by_cases hov : c0 + mm < nextC x s[g]
      · have HD := Lib.hid (show DropAt s.data.toList c0 (c0 + mm) g from ⟨hg, by rw [hx]; exact hat, fun _ => by rw [← HT.out]; exact hov⟩)
        by_cases hxl : x < c0 + mm
        · go_wp2_with fail
          refine (next_any s[g] x (by omega) (by omega) _).mono ?_
          rintro e w3 ⟨rfl, hw3⟩
          subst hw3
          go_wp2_with fail
          go_ret3
          exact ⟨⟨g, HD.out, ret_triple rfl rfl (by unfold leftOf; rw [hx, if_pos hxl, HG.out])⟩, b2⟩
        · go_wp2_with fail
          go_ret3
          exact ⟨⟨g, HD.out, ret_triple rfl rfl (by unfold leftOf; rw [hx, if_neg (by omega)])⟩, b2⟩
      · rw [HT.out] at hov hnb ⊢
        go_wp2_with fail
        go_roundw
        case rel => exact ⟨g + 1, by omega, by go_num, rfl, by omega, trivial⟩
        case measure => simp [RowKit.intOf]; omega
    · obtain rfl : g = (indL s.data.toList).length := by omega
      have ht : (indL s.data.toList).take (indL s.data.toList).length = indL s.data.toList := List.take_of_length_le (Nat.le_refl _)
      have HD := Lib.hid (show DropAt s.data.toList c0 (c0 + mm) (indL s.data.toList).length from ⟨hg, hat, fun h => absurd h hlt⟩)
      have hxl : ¬ colEnd ((indL s.data.toList).take (indL s.data.toList).length) c0 < c0 + mm := by rw [ht]; omega
      generalize hx : colEnd ((indL s.data.toList).take (indL s.data.toList).length) c0 = x at *
      go_wp2_with fail
      go_ret3
      exact ⟨⟨_, HD.out, ret_triple rfl rfl (by unfold leftOf; rw [hx, if_neg (by omega)])⟩, b2⟩
end Go.Proofs.YtlebikmiophghaaDoor
