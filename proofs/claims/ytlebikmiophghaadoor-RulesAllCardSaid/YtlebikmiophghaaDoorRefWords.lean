/-
  stetref18.words: a text's words. Conditions: at most 100000 bytes.
-/
import Derived.Test.YtlebikmiophghaaDoorRulesAlive
namespace Go.Proofs.YtlebikmiophghaaDoor
open Go.RowKit Go.Lib

def splitGo (cur : List UInt8) : List UInt8 → List (List UInt8)
  | [] => [cur]
  | b :: t => if b = 32 then cur :: splitGo [] t else splitGo (cur ++ [b]) t
theorem splitGo_len : ∀ (l cur : List UInt8), (splitGo cur l).length ≤ l.length + 1
  | [], cur => by simp [splitGo]
  | b :: t, cur => by
    simp only [splitGo, List.length_cons]
    split
    · have := splitGo_len t []
      simp only [List.length_cons]; omega
    · have := splitGo_len t (cur ++ [b]); omega
theorem infoStr : (Tryd.prog.info? 9).map (fun i => (i.zero, i.size, i.bytes)) = some (some (.string ⟨#[]⟩), 1, 16) := by kernel_rfl
theorem extract_str (s : ByteArray) (f k : Nat) : Value.string (s.extract f k) = strV ((s.data.toList.drop f).take (k - f)) := by
  unfold strV
  rw [← extract_data]
def strCells (l : List (List UInt8)) : List Value := l.map strV
theorem cur_next (s : ByteArray) (f k : Nat) (hf : f ≤ k) (hk : k < s.size) : (s.data.toList.drop f).take (k + 1 - f) = (s.data.toList.drop f).take (k - f) ++ [s[k]] := by
  have h2 : k - f < (s.data.toList.drop f).length := by
    have e : s.data.toList.length = s.size := Array.length_toList
    rw [List.length_drop]; omega
  rw [show k + 1 - f = (k - f) + 1 by omega, List.take_succ_eq_append_getElem h2, List.getElem_drop]
  have e : f + (k - f) = k := by omega
  have h3 : k < s.data.toList.length := by simpa using hk
  have h4 : f + (k - f) < s.data.toList.length := by omega
  have key : ∀ (i : Nat) (hi : i < s.data.toList.length), i = k → s.data.toList[i] = s[k] := by
    intro i hi hik
    subst hik
    rfl
  rw [key _ h4 e]
theorem drop_next (s : ByteArray) (k : Nat) (hk : k < s.size) : s.data.toList.drop k = s[k] :: s.data.toList.drop (k + 1) := by
  have h2 : k < s.data.toList.length := by simpa using hk
  rw [List.drop_eq_getElem_cons h2]; rfl

set_option maxHeartbeats 8000000 in
set_option maxRecDepth 100000 in
theorem words_any (s : ByteArray) (hs : s.size ≤ 100000) (w : World) : Calls Tryd.prog 51 #[.string s] w fun e w' => (∃ v, e = .returned v ∧ w'.ownsRow w.heap.size 9 1 v (splitGo [] s.data.toList).length (strCells (splitGo [] s.data.toList))) ∧ Below w.heap.size w w' := by
  obtain ⟨i0, hi, hz0, hz1, hz2⟩ := info_parts infoStr
  go_enter Tryd.func51, Tryd.ntmps51
  go_wp2_with fail
  go_loopw [3, 4, 5] (fun ov fv iv wr => ∃ (k f : Nat) (acc : List (List UInt8)), k ≤ s.size + 1 ∧ f ≤ k ∧ iv = .int .i64 k ∧ fv = .int .i64 f ∧ wr.ownsRow w.heap.size 9 1 ov acc.length (strCells acc) ∧ Below w.heap.size w wr ∧ acc.length ≤ k ∧
    RowKit.Hid ((k ≤ s.size → acc ++ splitGo ((s.data.toList.drop f).take (k - f)) (s.data.toList.drop k) = splitGo [] s.data.toList) ∧ (s.size < k → acc = splitGo [] s.data.toList))) (fun _ _ iv _ => s.size + 1 - (RowKit.intOf iv).toNat)
  case atStart =>
    exact ⟨0, 0, [], Nat.zero_le _, Nat.le_refl _, rfl, rfl, ⟨rfl, .inr ⟨w.heap.size, 0, #[], rfl, Nat.le_refl _, heap_alloc_new w _, Nat.le_refl _, by decide, rfl, rfl⟩⟩, (Below.refl _ w).alloc (Nat.le_refl _) _, Nat.le_refl _, Lib.hid ⟨fun _ => by simp, fun h => by omega⟩⟩
  case round =>
    obtain ⟨k, f, acc, hk, hf, rfl, rfl, hown, hbw, hal, HI⟩ := hrel
    have zr := hbw.size
    by_cases hle : k ≤ s.size
    · have HX := Lib.hid (extract_str s f k)
      by_cases hend : k = s.size
      · have HE := Lib.hid (show acc ++ [(s.data.toList.drop f).take (k - f)] = splitGo [] s.data.toList by
          have := HI.out.1 hle
          rw [show s.data.toList.drop k = [] from List.drop_of_length_le (by have e := ba_len s; omega)] at this
          exact this)
        have e0 : ((k : Int) == (s.size : Int)) = true := by simp; omega
        have hfs : f ≤ s.size := by omega
        have HEND := Lib.hid hend
        clear hend
        go_wp2_with (at_builtin; (refine wpList_append_own _ rfl _ _ 55 rfl w.heap.size 9 i0 (.string ⟨#[]⟩) 1 16 Tryd.underlying55 hi hz0 hz1 hz2 rfl (by decide) _ _ _ rfl (hown.alloc _) ⟨wr.heap.size, 0, none⟩ 1 1 [.string (s.extract f k)] rfl rfl (new_one _ _ _) (by simp [Value.oneCell']) (by unfold maxLen; omega) (by omega) (by simp; omega) ?_); intro v' w2 hown' hgrow _)
        have hbx : Below w.heap.size w w2 := (hbw.alloc (by omega) _).grown hgrow (by simp; omega) (fun kk hk => (ownsRow_lt (hown.alloc (.cells #[.string (s.extract f k)] 9)) hk).1)
        go_roundw
        case rel =>
          refine ⟨k + 1, k + 1, acc ++ [(s.data.toList.drop f).take (k - f)], by omega, Nat.le_refl _, by go_num, by go_num, ?_, hbx, by simp; omega, Lib.hid ⟨fun h => ?_, fun _ => HE.out⟩⟩
          · rw [HX.out] at hown'
            simpa [strCells] using hown'
          · have := HEND.out; omega
        case measure => simp [RowKit.intOf]; omega
      · have hks : k < s.size := by omega
        have HD := Lib.hid (drop_next s k hks)
        have HN := Lib.hid (cur_next s f k hf hks)
        have hIn := HI.out.1 hle
        rw [HD.out] at hIn
        have hb := (s[k]).toNat_lt
        by_cases h32 : s[k] = 32
        · have h32n : (s[k]).toNat = 32 := by rw [h32]; rfl
          have HE := Lib.hid (show (acc ++ [(s.data.toList.drop f).take (k - f)]) ++ splitGo [] (s.data.toList.drop (k + 1)) = splitGo [] s.data.toList by
            rw [← hIn]; simp only [splitGo, h32, if_true]; simp)
          clear h32 hIn
          go_wp2_with (at_builtin; (refine wpList_append_own _ rfl _ _ 55 rfl w.heap.size 9 i0 (.string ⟨#[]⟩) 1 16 Tryd.underlying55 hi hz0 hz1 hz2 rfl (by decide) _ _ _ rfl (hown.alloc _) ⟨wr.heap.size, 0, none⟩ 1 1 [.string (s.extract f k)] rfl rfl (new_one _ _ _) (by simp [Value.oneCell']) (by unfold maxLen; omega) (by omega) (by simp; omega) ?_); intro v' w2 hown' hgrow _)
          have hbx : Below w.heap.size w w2 := (hbw.alloc (by omega) _).grown hgrow (by simp; omega) (fun kk hk => (ownsRow_lt (hown.alloc (.cells #[.string (s.extract f k)] 9)) hk).1)
          go_roundw
          case rel =>
            refine ⟨k + 1, k + 1, acc ++ [(s.data.toList.drop f).take (k - f)], by omega, Nat.le_refl _, by go_num, by go_num, ?_, hbx, by simp; omega, Lib.hid ⟨fun _ => ?_, fun h => by omega⟩⟩
            · rw [HX.out] at hown'
              simpa [strCells] using hown'
            · rw [Nat.sub_self, List.take_zero]; exact HE.out
          case measure => simp [RowKit.intOf]; omega
        · have h32n : (s[k]).toNat ≠ 32 := fun hc => h32 (by rw [← UInt8.toNat_inj]; exact hc)
          have x1 : ((s[k].toNat : Int) == 32) = false := by simp; omega
          have x2 : (s[k].toNat == 32) = false := by simp; omega
          have e0 : ((k : Int) == (s.size : Int)) = false := by simp; omega
          have HE := Lib.hid (show acc ++ splitGo ((s.data.toList.drop f).take (k + 1 - f)) (s.data.toList.drop (k + 1)) = splitGo [] s.data.toList by
            rw [← hIn, HN.out]; simp only [splitGo, h32, if_false])
          clear h32 hIn
          go_wp2_with fail
          go_roundw
          case rel => exact ⟨k + 1, f, acc, by omega, by omega, by go_num, rfl, hown, hbw, by omega, Lib.hid ⟨fun _ => HE.out, fun h => by omega⟩⟩
          case measure => simp [RowKit.intOf]; omega
    · have hacc := HI.out.2 (by omega)
      subst hacc
      go_wp2_with fail
      go_ret
      exact ⟨⟨_, rfl, hown⟩, hbw⟩
end Go.Proofs.YtlebikmiophghaaDoor
