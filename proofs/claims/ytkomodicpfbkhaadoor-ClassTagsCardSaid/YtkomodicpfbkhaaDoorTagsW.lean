/-
  class.Block: it answers whether a text is a block tag. Conditions: the two tables of unicode/utf8; bytealg's variable holds a number.
-/
import Derived.Test.YtkomodicpfbkhaaDoorTagsP
import Derived.Test.YtkomodicpfbkhaaDoorTextRune
import Derived.Test.YtkomodicpfbkhaaDoorBase
namespace Go.Proofs.YtkomodicpfbkhaaDoor
open Go.RowKit Go.Lib Go.Shelf

/-- internal/bytealg.MaxLen holds a number. -/
def MLen (w : World) : Prop := ∃ m : Int, w.cell? ⟨2, 0, none⟩ = some (.int .i64 m)
theorem MLen.below {w w' : World} (h : MLen w) (hb : Below w.heap.size w w') : MLen w' := by
  obtain ⟨m, hm⟩ := h
  have hl := World.block_lt_of_cell? _ _ hm
  exact ⟨m, by rw [hb.cell (p := ⟨2, 0, none⟩) hl]; exact hm⟩

theorem lowF_range (x : Nat) (h : x ≤ 1114111) : 0 ≤ lowF x ∧ lowF x ≤ 2147483647 := by unfold lowF; split <;> omega

theorem ret_i32 {a b : Int} (h : a = b) : Ending.returned (.int .i32 a) = .returned (.int .i32 b) := by rw [h]

set_option maxHeartbeats 1000000 in
theorem low_any (x : Nat) (hx : x ≤ 1114111) (w : World) : Calls Tryd.prog 40 #[.int .i32 x] w fun e w' => e = .returned (.int .i32 (lowF x)) ∧ w' = w := by
  by_cases h : 65 ≤ (x : Int) ∧ (x : Int) ≤ 90
  · have e : lowF x = x + 32 := by unfold lowF; rw [if_pos h]
    rw [e]
    clear e
    obtain ⟨h1, h2⟩ := h
    go_enter Tryd.func40, Tryd.ntmps40
    go_wp2
    go_ret
    exact ⟨ret_i32 (by omega), rfl⟩
  · have e : lowF x = x := by unfold lowF; rw [if_neg h]
    rw [e]
    clear e
    have hc : (x : Int) < 65 ∨ (¬ (x : Int) < 65 ∧ 90 < (x : Int)) := by omega
    clear h
    rcases hc with h1 | ⟨h1, h2⟩
    all_goals
      go_enter Tryd.func40, Tryd.ntmps40
      go_wp2
      go_ret
      exact ⟨rfl, rfl⟩

theorem isEmpty_list (s : ByteArray) : s.toList.isEmpty = s.data.toList.isEmpty := by rw [Go.ByteArray.toList_eq]
theorem one_byte (l : List UInt8) (c : UInt8) : decide (0 ≤ Lib.indexByte l c) = l.contains c := (Lib.contains_iff_indexByte l c).symm

theorem map_low (s : ByteArray) (hs : s.size ≤ 10000000) (w : World) (hT : Tabs w) : Calls Tryd.prog 42 #[.func (.func 40) #[] #[], .string s] w fun e w' => e = .returned (.string ⟨(mapD lowF s.data.toList).toArray⟩) ∧ Below w.heap.size w w' :=
  Tryd.strings_Map_runes 40 #[] (enters_of Tryd.func40 (by kernel_rfl) rfl) lowF s w (by omega)
    (fun W x hx _ => (low_any x hx W).mono fun _ _ ⟨he, hw⟩ => ⟨he, 0, hw⟩) lowF_range hT

theorem mapD_len4 (f : Int → Int) (l : List UInt8) : (mapD f l).length ≤ 4 * l.length := by
  generalize hn : l.length = n
  induction n using Nat.strongRecOn generalizing l with
  | ind n ih =>
    by_cases hne : l = []
    · subst hne; simp [mapD_nil]
    · have hw := decodeL_width l
      have hl : 0 < l.length := List.length_pos_iff.2 hne
      have h4 := encodeRune_le (f (decodeL l).1)
      have h := ih _ (by rw [List.length_drop]; omega) (l.drop (decodeL l).2) rfl
      rw [List.length_drop] at h
      rw [mapD_step f l hne, List.length_append]
      split
      · omega
      · simp; omega

set_option maxHeartbeats 4000000 in
set_option maxRecDepth 100000 in
theorem block_any (s : ByteArray) (hs : s.size ≤ 10000000) (w : World) (hT : Tabs w) (hM : MLen w) : Calls Tryd.prog 21 #[.string s] w fun e w' => e = .returned (.bool (isTag s.data.toList)) ∧ Below w.heap.size w w' := by
  have HQ := Lib.hid (block_eq s.data.toList)
  have hem := isEmpty_list s
  have CT : ∀ (T sub : ByteArray), T.data.toList = tagsL → ∀ w, MLen w → Calls Tryd.prog 41 #[.string T, .string sub] w fun e w' => e = .returned (.bool (Lib.contains tagsL sub.data.toList)) ∧ w' = w := by
    intro T sub h w ⟨m, hm⟩
    have hsz : T.size < 4294967281 := by
      have e : T.data.toList.length = T.size := Array.length_toList
      rw [h] at e
      have : tagsL.length ≤ 1000 := by decide
      omega
    have := Tryd.strings_Contains T sub m w hsz hm
    rw [h] at this
    exact this
  by_cases h0 : s.data.toList = []
  · have hT0 : isTag s.data.toList = false := by rw [h0]; decide
    rw [hT0]
    have e0 : s.toList.isEmpty = true := by rw [hem, h0]; rfl
    go_enter Tryd.func21, Tryd.ntmps21
    go_wp2_with fail
    go_ret
    exact ⟨rfl, Below.refl _ _⟩
  · have e0 : s.toList.isEmpty = false := by rw [hem]; cases h : s.data.toList with
      | nil => exact absurd h h0
      | cons a t => rfl
    have e1 : s.data.toList.isEmpty = false := by rw [← hem]; exact e0
    have h2 := HQ.out
    rw [e1] at h2
    cases hc : s.data.toList.contains 32
    · rw [hc] at h2
      have H2 := Lib.hid h2
      have hml := mapD_len4 lowF s.data.toList
      rw [ba_len] at hml
      have kM := map_low s hs w hT
      obtain ⟨t, ht⟩ : ∃ t : ByteArray, t = ⟨(mapD lowF s.data.toList).toArray⟩ := ⟨_, rfl⟩
      have htz : t.size ≤ 40000000 := by rw [ht, ba_size]; omega
      have HTL := Lib.hid (show t.data.toList = mapD lowF s.data.toList by rw [ht])
      rw [← ht] at kM
      clear h2 HQ hem e1 h0 ht hml
      go_enter Tryd.func21, Tryd.ntmps21
      go_wp2_with (first
        | (go_at_call 41; refine (Tryd.strings_Contains_one s 32 _).mono ?_; rintro e w1 ⟨rfl, hw1⟩; subst hw1; rw [one_byte, hc])
        | (go_at_call 42; refine kM.mono ?_; rintro e w1 ⟨rfl, b1⟩)
        | (go_at_call 41; refine (CT _ _ (by kernel_rfl) _ (hM.below b1)).mono ?_; rintro e w2 ⟨rfl, hw2⟩; subst hw2))
      go_ret
      refine ⟨ret_bool ?_, b1⟩
      have h3 := H2.out
      simp only [Bool.not_false, Bool.true_and] at h3
      rw [← h3]
      first
        | (rw [HTL.out])
        | (rw [ba_app, ba_app, HTL.out]; simp)
    · rw [hc] at h2
      simp only [Bool.not_true, Bool.and_false, Bool.false_and] at h2
      rw [← h2]
      clear h2 HQ hem e1 h0
      go_enter Tryd.func21, Tryd.ntmps21
      go_wp2_with fail
      refine (Tryd.strings_Contains_one s 32 _).mono ?_
      rintro e w1 ⟨rfl, hw1⟩
      subst hw1
      rw [one_byte, hc]
      go_wp2_with fail
      go_ret
      exact ⟨rfl, Below.refl _ _⟩
end Go.Proofs.YtkomodicpfbkhaaDoor
