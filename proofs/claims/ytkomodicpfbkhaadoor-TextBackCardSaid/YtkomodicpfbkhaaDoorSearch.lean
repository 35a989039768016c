/-
  text.behind; sort.Search over a text's lines for the first one that ends behind an offset. Conditions: at most 1000000 lines.
-/
import Derived.Test.YtkomodicpfbkhaaDoorPlaceP
import Derived.BigQuiet
import Derived.Deep.LoopGhost
namespace Go.Proofs.YtkomodicpfbkhaaDoor
open Go.RowKit Go.Lib

theorem isEmpty_size (a : ByteArray) : a.toList.isEmpty = decide (a.size = 0) := by
  rw [Go.ByteArray.toList_eq]
  have e : a.data.toList.length = a.size := Array.length_toList
  cases h : a.data.toList with
  | nil => rw [h] at e; simp at e; rw [← e]; rfl
  | cons x t => rw [h] at e; simp at e; rw [← e]; simp

set_option maxHeartbeats 2000000 in
theorem behind_any (s : ByteArray) (hs : s.size ≤ 1000000) (w : World) : Calls Tryd.prog 35 #[.string s] w fun e w' => e = .returned (.bool (behindB s)) ∧ w = w' := by
  have hem := isEmpty_size s
  by_cases h0 : s.size = 0
  · have hB : behindB s = true := by unfold behindB; rw [decide_eq_true h0]; rfl
    rw [decide_eq_true h0] at hem
    rw [hB]
    go_enter Tryd.func35, Tryd.ntmps35
    go_wp2
    go_ret
    exact ⟨rfl, rfl⟩
  · rw [decide_eq_false h0] at hem
    have hi : s.size - 1 < s.size := by omega
    have hB : behindB s = (s[s.size - 1].toNat == 10 || s[s.size - 1].toNat == 13) := by
      unfold behindB
      rw [decide_eq_false h0, Bool.false_or, bang_get s _ hi, Bool.eq_iff_iff, isEol_iff]
      simp [or_comm]
    have e0 : ((s.size : Int) - 1) = ((s.size - 1 : Nat) : Int) := by omega
    rw [hB]
    go_enter Tryd.func35, Tryd.ntmps35
    go_wp2
    all_goals
      go_ret
      refine ⟨ret_bool ?_, rfl⟩
      rw [Bool.eq_iff_iff]
      simp
      try omega

/-- What the search reads: the row of lines, and the offset, in boxes. -/
structure Looks (s : ByteArray) (o La Lo g n cap : Nat) (w : World) : Prop where
  lines : w.cell? ⟨La, 0, none⟩ = some (.slice (some ⟨g, 0, none⟩) n cap)
  off : w.cell? ⟨Lo, 0, none⟩ = some (.int .i64 o)
  ends : ∀ k, k < n → w.cell? ⟨g, k * 3 + 2, none⟩ = some (.int .i64 (posAt s (k + 1)))
  la : La < w.heap.size
  lo : Lo < w.heap.size
  lg : g < w.heap.size
theorem Looks.below {s : ByteArray} {o La Lo g n cap : Nat} {w w' : World} (h : Looks s o La Lo g n cap w) (hb : Below w.heap.size w w') : Looks s o La Lo g n cap w' := by
  have z := hb.size
  have l1 := h.la
  have l2 := h.lo
  have l3 := h.lg
  refine ⟨?_, ?_, fun k hk => ?_, by omega, by omega, by omega⟩
  · rw [hb.cell (p := ⟨La, 0, none⟩) l1]; exact h.lines
  · rw [hb.cell (p := ⟨Lo, 0, none⟩) l2]; exact h.off
  · rw [hb.cell (p := ⟨g, k * 3 + 2, none⟩) l3]; exact h.ends k hk

set_option maxHeartbeats 2000000 in
theorem closure_any (s : ByteArray) (o La Lo g n cap : Nat) (w : World) (h : Looks s o La Lo g n cap w) (k : Nat) (hk : k < n) :
    Calls Tryd.prog 37 #[.int .i64 k, .pointer (some ⟨La, 0, none⟩), .pointer (some ⟨Lo, 0, none⟩)] w fun e w' => e = .returned (.bool (decide (o < posAt s (k + 1)))) ∧ Below w.heap.size w w' := by
  have c0 := h.lines
  have c1 := h.off
  have c2 := h.ends k hk
  have i1 : (k : Int) < (n : Int) := by omega
  go_enter Tryd.func37, Tryd.ntmps37
  go_wp2
  go_quiet (fail)
  go_wp2
  go_ret
  exact ⟨ret_bool (by first | rfl | simp), below_drewN (Below.refl _ _)⟩

set_option maxHeartbeats 4000000 in
set_option maxRecDepth 1000000 in
theorem search_any (s : ByteArray) (o La Lo g n cap : Nat) (hn : n ≤ 1000000) (w : World) (h : Looks s o La Lo g n cap w) :
    Calls Tryd.prog 36 #[.int .i64 n, .func (.func 37) #[] #[.pointer (some ⟨La, 0, none⟩), .pointer (some ⟨Lo, 0, none⟩)]] w fun e w' =>
      (∃ K : Nat, e = .returned (.int .i64 K) ∧ K ≤ n ∧ (∀ t, t < K → posAt s (t + 1) ≤ o) ∧ (∀ t, K ≤ t → t < n → o < posAt s (t + 1))) ∧ Below w.heap.size w w' := by
  have H := Lib.hid h
  clear h
  go_enter Tryd.func36, Tryd.ntmps36
  go_wp2
  go_loopg [5, 6] n (fun kx s5 s6 wr => ∃ (lo hi : Nat), s5 = .int .i64 lo ∧ s6 = .int .i64 hi ∧ lo ≤ hi ∧ hi ≤ n ∧ hi - lo ≤ kx ∧ Below w.heap.size w wr ∧
    RowKit.Hid ((∀ t, t < lo → posAt s (t + 1) ≤ o) ∧ (∀ t, hi ≤ t → t < n → o < posAt s (t + 1))))
  case atStart => exact ⟨0, n, rfl, rfl, Nat.zero_le _, Nat.le_refl _, by omega, Below.refl _ _, Lib.hid ⟨fun t ht => absurd ht (Nat.not_lt_zero _), fun t h1 h2 => by omega⟩⟩
  case round =>
    obtain ⟨lo, hi, rfl, rfl, hlh, hin, hg, hbw, I⟩ := hrel
    by_cases hlt : lo < hi
    · have hc := closure_any s o La Lo g n cap wr (H.out.below hbw) ((lo + hi) / 2) (by omega)
      rw [show (((lo + hi) / 2 : Nat) : Int) = ((lo : Int) + (hi : Int)) / 2 by omega] at hc
      have hws := hbw.size
      cases hp : decide (o < posAt s ((lo + hi) / 2 + 1)) <;> rw [hp] at hc
      · have HP := Lib.hid (of_decide_eq_false hp)
        clear hp
        go_wp2_with fail
        refine hc.mono ?_
        rintro e w' ⟨rfl, hb'⟩
        go_wp2_with fail
        go_roundg (hi - ((lo + hi) / 2 + 1))
        case measure => omega
        case rel =>
          refine ⟨(lo + hi) / 2 + 1, hi, by rw [show ((lo : Int) + (hi : Int)) / 2 + 1 = (((lo + hi) / 2 + 1 : Nat) : Int) by omega], rfl, by omega, hin, Nat.le_refl _, hbw.trans (hb'.mono hws), Lib.hid ⟨fun t ht => ?_, I.out.2⟩⟩
          have := HP.out
          have := posAt_mono s (t + 1) ((lo + hi) / 2 + 1) (by omega)
          omega
      · have HP := Lib.hid (of_decide_eq_true hp)
        clear hp
        go_wp2_with fail
        refine hc.mono ?_
        rintro e w' ⟨rfl, hb'⟩
        go_wp2_with fail
        go_roundg ((lo + hi) / 2 - lo)
        case measure => omega
        case rel =>
          refine ⟨lo, (lo + hi) / 2, rfl, by rw [show ((lo : Int) + (hi : Int)) / 2 = (((lo + hi) / 2 : Nat) : Int) by omega], by omega, by omega, Nat.le_refl _, hbw.trans (hb'.mono hws), Lib.hid ⟨I.out.1, fun t ht htn => ?_⟩⟩
          have := HP.out
          have := posAt_mono s ((lo + hi) / 2 + 1) (t + 1) (by omega)
          omega
    · obtain rfl : hi = lo := by omega
      go_wp2
      go_ret
      exact ⟨⟨hi, rfl, hin, I.out.1, I.out.2⟩, hbw⟩
end Go.Proofs.YtkomodicpfbkhaaDoor
