/-
  The walk of ClassAgain: it returns true whatever the texts. Conditions: the two tables of unicode/utf8.
-/
import Derived.Test.YtkomodicpfbkhaaDoorFoldF
import Derived.Test.YtkomodicpfbkhaaDoorFoldW
import Derived.Test.YtkomodicpfbkhaaDoorClean
namespace Go.Proofs.YtkomodicpfbkhaaDoor
open Go.RowKit Go.Lib

theorem more_eq (a b : ByteArray) : foldS (⟨#[10, 32]⟩ ++ a ++ ⟨#[9, 32, 13, 10]⟩ ++ b ++ ⟨#[32]⟩ : ByteArray).data.toList = foldS (a ++ ⟨#[32]⟩ ++ b : ByteArray).data.toList := by
  have e1 : (⟨#[10, 32]⟩ ++ a ++ ⟨#[9, 32, 13, 10]⟩ ++ b ++ ⟨#[32]⟩ : ByteArray).data.toList = 10 :: 32 :: (a.data.toList ++ 9 :: 32 :: 13 :: 10 :: (b.data.toList ++ [32])) := by
    rw [ba_app, ba_app, ba_app, ba_app]; simp
  have e2 : (a ++ ⟨#[32]⟩ ++ b : ByteArray).data.toList = a.data.toList ++ 32 :: b.data.toList := by
    rw [ba_app, ba_app]; simp
  rw [e1, e2, foldS_more]

theorem cleanL_len (l : List UInt8) : (cleanL l).length ≤ 4 * l.length := by
  generalize hn : l.length = n
  induction n using Nat.strongRecOn generalizing l with
  | ind n ih =>
    by_cases hne : l = []
    · subst hne; have : cleanL [] = [] := rfl
      rw [this]; simp
    · have hw := decodeL_width l
      have hl : 0 < l.length := List.length_pos_iff.2 hne
      have h4 := encodeRune_le (cleanF (decodeL l).1)
      have h := ih _ (by rw [List.length_drop]; omega) (l.drop (decodeL l).2) rfl
      rw [List.length_drop] at h
      rw [cleanL_step l hne, List.length_append]
      omega

namespace classAgain
set_option maxHeartbeats 4000000 in
theorem walk (a : ByteArray) (ha : a.size ≤ maxLen) (b : ByteArray) (hb : b.size ≤ maxLen) (w : World) (hT : Tabs w) :
    Calls Tryd.prog 6 #[.string a, .string b] w fun e w' => e = .returned (.bool true) ∧ Below w.heap.size w w' := by
  have C1 := Lib.hid (show foldS [65] = [97] by rw [foldS_eq _ 1 rfl]; decide +kernel)
  have HM := Lib.hid (more_eq a b)
  have HT := Lib.hid (foldS_twice (a ++ ⟨#[32]⟩ ++ b : ByteArray).data.toList)
  have HC := Lib.hid (foldS_clean (a ++ ⟨#[32]⟩ ++ b : ByteArray).data.toList)
  have z1 : (a ++ ⟨#[32]⟩ ++ b : ByteArray).size = a.size + 1 + b.size := by
    rw [ByteArray.size_append, ByteArray.size_append]; rfl
  have z2 : (⟨#[10, 32]⟩ ++ a ++ ⟨#[9, 32, 13, 10]⟩ ++ b ++ ⟨#[32]⟩ : ByteArray).size = 2 + a.size + 4 + b.size + 1 := by
    rw [ByteArray.size_append, ByteArray.size_append, ByteArray.size_append, ByteArray.size_append]; rfl
  have hf := foldS_len (a ++ ⟨#[32]⟩ ++ b : ByteArray).data.toList
  have hc := cleanL_len (foldS (a ++ ⟨#[32]⟩ ++ b : ByteArray).data.toList)
  rw [ba_len] at hf
  unfold maxLen at ha hb
  by_cases hbig : 20000 < a.size ∨ 20000 < b.size
  · by_cases hba : 20000 < a.size
    all_goals
      go_enter Tryd.func6, Tryd.ntmps6
      go_wp2_with fail
      refine (foldS_any _ (by decide) _ hT).mono ?_
      rintro e w1 ⟨rfl, b1⟩
      rw [C1.out]
      go_wp2_with fail
      go_ret
      exact ⟨rfl, b1⟩
  · have k0 : (a ++ ⟨#[32]⟩ ++ b : ByteArray).size ≤ 10000000 := by rw [z1]; omega
    have k1 : (⟨#[10, 32]⟩ ++ a ++ ⟨#[9, 32, 13, 10]⟩ ++ b ++ ⟨#[32]⟩ : ByteArray).size ≤ 10000000 := by rw [z2]; omega
    have kk := fun w hT => foldS_any (a ++ ⟨#[32]⟩ ++ b) k0 w hT
    have kk1 := fun w hT => foldS_any (⟨#[10, 32]⟩ ++ a ++ ⟨#[9, 32, 13, 10]⟩ ++ b ++ ⟨#[32]⟩) k1 w hT
    rw [HM.out] at kk1
    rw [z1] at hf
    clear z1 z2 HM k0 k1
    generalize hF : foldS (a ++ ⟨#[32]⟩ ++ b : ByteArray).data.toList = f at *
    have k2 : (⟨f.toArray⟩ : ByteArray).size ≤ 10000000 := by rw [ba_size]; omega
    have k3 : (⟨(cleanL f).toArray⟩ : ByteArray).size ≤ 10000000 := by rw [ba_size]; omega
    have k4 : (⟨f.toArray⟩ : ByteArray).size ≤ 1000000000 := by omega
    have q2 := fun w hT => foldS_any ⟨f.toArray⟩ k2 w hT
    rw [ba_list, HT.out] at q2
    have q3 := fun w hT => foldS_any ⟨(cleanL f).toArray⟩ k3 w hT
    rw [ba_list, HC.out] at q3
    have q4 := fun w => clean_any ⟨f.toArray⟩ w k4
    rw [ba_list] at q4
    clear k2 k3 k4 hF
    go_enter Tryd.func6, Tryd.ntmps6
    go_wp2_with fail
    refine (foldS_any _ (by decide) _ hT).mono ?_
    rintro e w1 ⟨rfl, b1⟩
    rw [C1.out]
    have y1 := b1.size
    have hT1 := hT.below b1
    go_wp2_with fail
    refine (kk _ hT1).mono ?_
    rintro e w2 ⟨rfl, b2⟩
    have y2 := b2.size
    have hT2 := hT1.below b2
    go_wp2_with fail
    refine (q2 _ hT2).mono ?_
    rintro e w3 ⟨rfl, b3⟩
    have y3 := b3.size
    have hT3 := hT2.below b3
    go_wp2_with fail
    refine (kk1 _ hT3).mono ?_
    rintro e w4 ⟨rfl, b4⟩
    have y4 := b4.size
    have hT4 := hT3.below b4
    go_wp2_with fail
    refine (q4 _).mono ?_
    rintro e w5 ⟨rfl, b5⟩
    have y5 := b5.size
    have hT5 := hT4.below b5
    go_wp2_with fail
    refine (q3 _ hT5).mono ?_
    rintro e w6 ⟨rfl, b6⟩
    have y6 := b6.size
    go_wp2_with fail
    refine (q4 _).mono ?_
    rintro e w7 ⟨rfl, b7⟩
    go_wp2_with fail
    go_ret
    exact ⟨ret_bool (by simp), b1.trans ((b2.mono (by omega)).trans ((b3.mono (by omega)).trans ((b4.mono (by omega)).trans ((b5.mono (by omega)).trans ((b6.mono (by omega)).trans (b7.mono (by omega)))))))⟩
end classAgain
end Go.Proofs.YtkomodicpfbkhaaDoor
