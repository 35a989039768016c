/-
  rules.low, rules.same: words without regard to capital letters. Conditions: the two tables of unicode/utf8.
-/
import Derived.Test.YtlebikmiophghaaDoorRulesP
import Derived.Test.YtlebikmiophghaaDoorBase
import Derived.Test.YtlebikmiophghaaDoorDoorD
namespace Go.Proofs.YtlebikmiophghaaDoor
open Go.RowKit Go.Lib Go.Shelf

theorem ba_len (s : ByteArray) : s.data.toList.length = s.size := Array.length_toList
theorem ba_list (l : List UInt8) : (⟨l.toArray⟩ : ByteArray).data.toList = l := rfl
theorem ba_size (l : List UInt8) : (⟨l.toArray⟩ : ByteArray).size = l.length := by simp [ByteArray.size]
theorem ret_i32 {a b : Int} (h : a = b) : Ending.returned (.int .i32 a) = .returned (.int .i32 b) := by rw [h]
theorem lowF_range (x : Nat) (h : x ≤ 1114111) : 0 ≤ lowF x ∧ lowF x ≤ 2147483647 := by unfold lowF; split <;> omega

set_option maxHeartbeats 1000000 in
theorem low1_any (x : Nat) (hx : x ≤ 1114111) (w : World) : Calls Tryd.prog 84 #[.int .i32 x] w fun e w' => e = .returned (.int .i32 (lowF x)) ∧ w' = w := by
  by_cases h : 65 ≤ (x : Int) ∧ (x : Int) ≤ 90
  · have e : lowF x = x + 32 := by unfold lowF; rw [if_pos h]
    rw [e]
    clear e
    obtain ⟨h1, h2⟩ := h
    go_enter Tryd.func84, Tryd.ntmps84
    go_wp2
    go_ret
    exact ⟨ret_i32 (by omega), rfl⟩
  · have e : lowF x = x := by unfold lowF; rw [if_neg h]
    rw [e]
    clear e
    have hc : (x : Int) < 65 ∨ (¬ (x : Int) < 65 ∧ 90 < (x : Int)) := by omega
    clear h
    rcases hc with h1 | ⟨h1, h2⟩
    all_goals
      go_enter Tryd.func84, Tryd.ntmps84
      go_wp2
      go_ret
      exact ⟨rfl, rfl⟩

set_option maxHeartbeats 1000000 in
theorem low_any (s : ByteArray) (hs : s.size ≤ 10000000) (w : World) (hT : Tabs w) : Calls Tryd.prog 66 #[.string s] w fun e w' => e = .returned (.string ⟨(mapD lowF s.data.toList).toArray⟩) ∧ Below w.heap.size w w' := by
  have k := Tryd.strings_Map_runes 84 #[] (enters_of Tryd.func84 (by kernel_rfl) rfl) lowF s w (by omega)
    (fun W x hx _ => (low1_any x hx W).mono fun _ _ ⟨he, hw⟩ => ⟨he, 0, hw⟩) lowF_range hT
  generalize (⟨(mapD lowF s.data.toList).toArray⟩ : ByteArray) = t at *
  go_enter Tryd.func66, Tryd.ntmps66
  go_wp2_with fail
  refine k.mono ?_
  rintro e w1 ⟨rfl, b1⟩
  go_wp2_with fail
  go_ret
  exact ⟨rfl, b1⟩

set_option maxHeartbeats 2000000 in
theorem same_any (a : List UInt8) (ha : ∀ x ∈ a, x.toNat < 128) (hal : a.length ≤ 1000) (b : ByteArray) (hb : b.size ≤ 1000000) (w : World) (hT : Tabs w) : Calls Tryd.prog 47 #[.string ⟨a.toArray⟩, .string b] w fun e w' => e = .returned (.bool (sameW a b.data.toList)) ∧ Below w.heap.size w w' := by
  have HQ := Lib.hid (same_eq a b.data.toList ha)
  have hsz : (⟨a.toArray⟩ : ByteArray).size = a.length := ba_size a
  have hbl := ba_len b
  by_cases hl : a.length = b.size
  · have kA := fun w hT => low_any ⟨a.toArray⟩ (by omega) w hT
    have kB := fun w hT => low_any b (by omega) w hT
    rw [ba_list] at kA
    have h2 := HQ.out
    rw [decide_eq_true (by omega), Bool.true_and] at h2
    have H2 := Lib.hid h2
    have e0 : ((a.length : Int) == (b.size : Int)) = true := by simp; omega
    clear h2 HQ
    generalize mapD lowF a = x at *
    generalize mapD lowF b.data.toList = y at *
    go_enter Tryd.func47, Tryd.ntmps47
    go_wp2_with fail
    refine (kA _ hT).mono ?_
    rintro e w1 ⟨rfl, b1⟩
    go_wp2_with fail
    refine (kB _ (hT.below b1)).mono ?_
    rintro e w2 ⟨rfl, b2⟩
    go_wp2_with fail
    go_ret
    refine ⟨ret_bool ?_, b1.trans (b2.mono b1.size)⟩
    show _ = (a.map lowB == b.data.toList.map lowB)
    rw [← H2.out]
    try simp
  · have h2 := HQ.out
    rw [decide_eq_false (by omega), Bool.false_and] at h2
    have H2 := Lib.hid h2
    have e0 : ((a.length : Int) == (b.size : Int)) = false := by simp; omega
    clear h2 HQ
    go_enter Tryd.func47, Tryd.ntmps47
    go_wp2_with fail
    go_ret
    exact ⟨ret_bool H2.out, Below.refl _ _⟩
end Go.Proofs.YtlebikmiophghaaDoor
