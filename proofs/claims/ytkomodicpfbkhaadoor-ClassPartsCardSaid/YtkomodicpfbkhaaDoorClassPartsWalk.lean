/-
  The walk of ClassParts: it returns true whatever the texts. Conditions: the two tables of unicode/utf8.
-/
import Derived.Test.YtkomodicpfbkhaaDoorFoldF
import Derived.Test.YtkomodicpfbkhaaDoorFoldW
namespace Go.Proofs.YtkomodicpfbkhaaDoor
open Go.RowKit Go.Lib

theorem parts_eq (a b : ByteArray) : foldS (a ++ ⟨#[10]⟩ ++ b).data.toList = if foldS a.data.toList = [] ∨ foldS b.data.toList = [] then foldS a.data.toList ++ foldS b.data.toList else foldS a.data.toList ++ 32 :: foldS b.data.toList := by
  rw [← foldS_parts]
  congr 1
  rw [ba_app, ba_app]; simp

namespace classParts
set_option maxHeartbeats 4000000 in
theorem walk (a : ByteArray) (ha : a.size ≤ maxLen) (b : ByteArray) (hb : b.size ≤ maxLen) (w : World) (hT : Tabs w) :
    Calls Tryd.prog 5 #[.string a, .string b] w fun e w' => e = .returned (.bool true) ∧ Below w.heap.size w w' := by
  have C1 := Lib.hid (show foldS [65, 32, 66] = [97, 32, 98] by rw [foldS_eq _ 3 rfl]; decide +kernel)
  have HP := Lib.hid (parts_eq a b)
  have za : (a ++ ⟨#[10]⟩ : ByteArray).size = a.size + 1 := by rw [ByteArray.size_append]; rfl
  have zb : (a ++ ⟨#[10]⟩ ++ b : ByteArray).size = a.size + 1 + b.size := by rw [ByteArray.size_append, za]
  have fa := foldS_size a
  have fb := foldS_size b
  rw [ba_size] at fa fb
  unfold maxLen at ha hb
  by_cases hbig : 20000 < a.size ∨ 20000 < b.size
  · by_cases hba : 20000 < a.size
    all_goals
      go_enter Tryd.func5, Tryd.ntmps5
      go_wp2_with fail
      refine (foldS_any _ (by decide) _ hT).mono ?_
      rintro e w1 ⟨rfl, b1⟩
      rw [C1.out]
      go_wp2_with fail
      go_ret
      exact ⟨rfl, b1⟩
  · have k0 : (a ++ ⟨#[10]⟩ ++ b : ByteArray).size ≤ 10000000 := by rw [zb]; omega
    have k1 : a.size ≤ 10000000 := by omega
    have k2 : b.size ≤ 10000000 := by omega
    clear za zb
    have kk := fun w hT => foldS_any (a ++ ⟨#[10]⟩ ++ b) k0 w hT
    rw [HP.out] at kk
    go_enter Tryd.func5, Tryd.ntmps5
    go_wp2_with fail
    refine (foldS_any _ (by decide) _ hT).mono ?_
    rintro e w1 ⟨rfl, b1⟩
    rw [C1.out]
    have z1 := b1.size
    have hT1 := hT.below b1
    go_wp2_with fail
    refine (foldS_any a k1 _ hT1).mono ?_
    rintro e w2 ⟨rfl, b2⟩
    have z2 := b2.size
    have hT2 := hT1.below b2
    go_wp2_with fail
    refine (foldS_any b k2 _ hT2).mono ?_
    rintro e w3 ⟨rfl, b3⟩
    have z3 := b3.size
    have hT3 := hT2.below b3
    go_wp2_with fail
    refine (kk _ hT3).mono ?_
    rintro e w4 ⟨rfl, b4⟩
    have hbb : Below w.heap.size w _ := b1.trans ((b2.mono (by omega)).trans ((b3.mono (by omega)).trans (b4.mono (by omega))))
    clear kk
    generalize foldS a.data.toList = x at *
    generalize foldS b.data.toList = y at *
    by_cases hx : x = []
    · subst hx
      go_wp2_with fail
      go_ret
      exact ⟨ret_bool (by simp [Go.ByteArray.toList_eq]), hbb⟩
    · by_cases hy : y = []
      · subst hy
        have e1 : x.isEmpty = false := by simp [hx]
        go_wp2_with fail
        go_ret
        exact ⟨ret_bool (by simp [Go.ByteArray.toList_eq]), hbb⟩
      · have e1 : x.isEmpty = false := by simp [hx]
        have e2 : y.isEmpty = false := by simp [hy]
        go_wp2_with fail
        go_ret
        exact ⟨ret_bool (by simp [Go.ByteArray.toList_eq]), hbb⟩
end classParts
end Go.Proofs.YtkomodicpfbkhaaDoor
