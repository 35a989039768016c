/-
  stetref02.Move and Check: what they answer. Conditions: sizes within a million.
-/
import Derived.Test.YtkhpoeolnhfflaaRefSort
set_option linter.unusedSimpArgs false
set_option linter.unusedVariables false
namespace Go.Proofs.Ytkhpoeolnhfflaa
open Go.Shelf Go.RowKit Go.Lib Go.Sort

/-- The row's edit k, in a world that has kept the row. -/
theorem EditsIn.at {n : Nat} {w : World} {a : Option Addr} {m cap : Nat} {l : List EditP} (h : EditsIn n w (.slice a m cap) l) {k : Nat} (hk : k < l.length) : ∃ g off, a = some ⟨g, off, none⟩ ∧ g < n ∧ m = l.length ∧ ∀ j (h : j < l.length), EditAt w g (off + j * 3) l[j] := by
  obtain ⟨a', cap', hv, hr⟩ := h
  injection hv with h1 h2 h3
  obtain ⟨g, off, e, hg, hc⟩ := hr (by intro e; subst e; simp at hk)
  exact ⟨g, off, h1.trans e, hg, h2, hc⟩

set_option maxRecDepth 100000 in
set_option maxHeartbeats 4000000 in
theorem refMove_any (a : Option Addr) (cap : Nat) (l : List EditP) (hl : l.length ≤ 1000) (hb : ∀ e ∈ l, EdB e) (o : Int) (ho : 0 ≤ o) (ho2 : o ≤ 1000000) (w : World) (hI : EditsIn w.heap.size w (.slice a l.length cap) l) :
    Calls Try.prog 37 #[.slice a l.length cap, .int .i64 o] w fun e w' => e = .returned (.int .i64 (moveP (ss ltE l) o)) ∧ Below w.heap.size w w' := by
  have hs := refSorted_any a cap l (by omega) w hI
  have HB := Lib.hid (show ∀ e ∈ ss ltE l, EdB e from fun e he => hb e ((ss_perm ltE l).mem_iff.1 he))
  have hsl : (ss ltE l).length = l.length := ss_length ltE l
  have mixed : Try.prog.follows Departure.mixedOrders = true := rfl
  clear hI hb
  obtain ⟨S, hS⟩ : ∃ S, S = ss ltE l := ⟨_, rfl⟩
  rw [← hS] at hs HB hsl ⊢
  have HSL := Lib.hid hsl
  clear hS hsl
  go_enter Try.func37, Try.ntmps37
  go_wp2_with fail
  refine hs.mono ?_
  clear hs
  rintro e w1 ⟨⟨a1, cap1, rfl, hI1⟩, b1⟩
  have HI := Lib.hid hI1
  have HB1 := Lib.hid b1
  clear hI1 b1
  go_wp2_with fail
  go_loopw [6, 7] (fun mv iv wr => ∃ k : Nat, k ≤ l.length ∧ iv = .int .i64 k ∧ mv = .int .i64 (o + ((S.take k).map (dl o)).sum) ∧ Below w1.heap.size w1 wr) (fun _ iv _ => l.length - (RowKit.intOf iv).toNat)
  case atStart => exact ⟨0, Nat.zero_le _, rfl, by simp, Below.refl _ _⟩
  case round =>
    obtain ⟨k, hk, rfl, rfl, hbw⟩ := hrel
    by_cases hlt : k < l.length
    · have hlt' : (k : Int) < (l.length : Int) := by omega
      have hkS : k < S.length := by rw [HSL.out]; exact hlt
      have hST := Lib.hid (sum_take o S k hkS)
      obtain ⟨s1, s2⟩ := sum_bound ho (S.take k) (fun e he => HB.out e (List.mem_of_mem_take he))
      obtain ⟨b1, b2, b3, b4⟩ := HB.out S[k] (List.getElem_mem hkS)
      obtain ⟨g, off, rfl, hg, -, hc⟩ := (HI.out.below hbw).at hkS
      obtain ⟨c0, c1, c2⟩ := hc k hkS
      have hlk : ((S.take k).length : Int) ≤ 1000 := by simp; omega
      generalize ((S.take k).map (dl o)).sum = sm at *
      have hDL : RowKit.Hid (dl o S[k] = if S[k].fr < o ∨ S[k].to ≤ o then (S[k].text.size : Int) - (min S[k].to o - S[k].fr) else 0) := rfl
      clear hc
      generalize hek : S[k] = e at *
      obtain ⟨x0, x1, x2⟩ := e
      simp only at c0 c1 c2 b1 b2 b3 b4
      have hM : ∀ d : Int, (x0 < o ∨ x1 ≤ o → d = (x2.size : Int) - (min x1 o - x0)) → (¬ (x0 < o ∨ x1 ≤ o) → d = 0) → o + sm + d = o + ((S.take (k + 1)).map (dl o)).sum := fun d h1 h2 => by
        rw [hST.out, hDL.out]
        simp only
        split
        · rename_i h; rw [h1 h]; omega
        · rename_i h; rw [h2 h]; omega
      have HM := Lib.hid hM
      clear hM
      by_cases h1 : x1 ≤ o
      · go_wp2_with fail
        go_quiet (fail)
        go_wp2_with fail
        go_roundw
        case rel => exact ⟨k + 1, by omega, by go_num, congrArg (Value.int .i64) (HM.out _ (fun _ => by rw [Int.min_eq_left h1]) (fun h => absurd (.inr h1) h)), below_drewN hbw⟩
        case measure => simp [RowKit.intOf]; omega
      · by_cases h0 : x0 < o
        · go_wp2_with fail
          go_quiet (fail)
          go_wp2_with fail
          go_roundw
          case rel => exact ⟨k + 1, by omega, by go_num, congrArg (Value.int .i64) (HM.out _ (fun _ => by rw [Int.min_eq_right (by omega)]) (fun h => absurd (.inl h0) h)), below_drewN hbw⟩
          case measure => simp [RowKit.intOf]; omega
        · go_wp2_with fail
          go_roundw
          case rel => exact ⟨k + 1, by omega, by go_num, by rw [← HM.out 0 (fun h => by omega) (fun _ => rfl)]; simp, hbw⟩
          case measure => simp [RowKit.intOf]; omega
    · obtain rfl : k = l.length := by omega
      go_wp2
      go_ret
      exact ⟨by rw [← HSL.out, List.take_length]; rfl, HB1.out.trans (hbw.mono HB1.out.size)⟩

/-- An edit that is none of a text of n bytes. -/
def badE (n : Nat) (e : EditP) : Bool := decide (e.fr < 0) || decide (e.to < e.fr) || decide ((n : Int) < e.to)
/-- Does an edit begin ahead of the end of the one ahead of it? -/
def lapP : List EditP → Bool
  | x :: y :: t => decide (y.fr < x.to) || lapP (y :: t)
  | _ => false
theorem lapP_false : ∀ l : List EditP, (∀ i (h : i + 1 < l.length), l[i].to ≤ l[i + 1].fr) → lapP l = false
  | [], _ => rfl
  | [x], _ => rfl
  | x :: y :: t, h => by
    have h0 := h 0 (by simp)
    have ih := lapP_false (y :: t) (fun i hi => by have := h (i + 1) (by simp at hi ⊢; omega); simpa using this)
    simp only [List.getElem_cons_zero, List.getElem_cons_succ, Nat.zero_add] at h0
    simp only [lapP, ih, Bool.or_false, decide_eq_false_iff_not]
    omega
theorem lapP_true : ∀ (l : List EditP) (i : Nat) (h : i + 1 < l.length), l[i + 1].fr < l[i].to → lapP l = true
  | x :: y :: t, 0, h, hl => by simp only [lapP, Bool.or_eq_true, decide_eq_true_eq]; exact .inl (by simpa using hl)
  | x :: y :: t, i + 1, h, hl => by
    simp only [lapP, Bool.or_eq_true]
    exact .inr (lapP_true (y :: t) i (by simp at h ⊢; omega) (by simpa using hl))
  | [x], i, h, _ => by simp at h
  | [], i, h, _ => by simp at h
def checkP (n : Nat) (l : List EditP) : Int := if l.any (badE n) then 20 else if lapP (ss ltE l) then 21 else 0

theorem any_false_take {p : EditP → Bool} {l : List EditP} {k : Nat} (h : k < l.length) (h1 : (l.take k).any p = false) (h2 : p l[k] = false) : (l.take (k + 1)).any p = false := by
  rw [List.take_succ_eq_append_getElem h, List.any_append, h1]; simp [h2]
theorem any_true_at {p : EditP → Bool} {l : List EditP} {k : Nat} (h : k < l.length) (h2 : p l[k] = true) : l.any p = true := List.any_eq_true.2 ⟨_, List.getElem_mem h, h2⟩

set_option maxRecDepth 100000 in
set_option maxHeartbeats 8000000 in
theorem refCheck_any (s : ByteArray) (hsz : s.size ≤ 1000000) (a : Option Addr) (cap : Nat) (l : List EditP) (hl : l.length ≤ 1000000) (w : World) (hI : EditsIn w.heap.size w (.slice a l.length cap) l) :
    Calls Try.prog 35 #[.string s, .slice a l.length cap] w fun e w' => e = .returned (.int .i64 (checkP s.size l)) ∧ Below w.heap.size w w' := by
  have mixed : Try.prog.follows Departure.mixedOrders = true := rfl
  have HI := Lib.hid hI
  clear hI
  go_enter Try.func35, Try.ntmps35
  go_wp2
  go_loopw [5] (fun iv wr => ∃ k : Nat, k ≤ l.length ∧ iv = .int .i64 k ∧ RowKit.Hid ((l.take k).any (badE s.size) = false) ∧ Below w.heap.size w wr) (fun iv _ => l.length - (RowKit.intOf iv).toNat)
  case atStart => exact ⟨0, Nat.zero_le _, rfl, rfl, Below.refl _ _⟩
  case round =>
    obtain ⟨k, hk, rfl, HK, hbw⟩ := hrel
    by_cases hlt : k < l.length
    · have hlt' : (k : Int) < (l.length : Int) := by omega
      obtain ⟨g, off, rfl, hg, -, hc⟩ := (HI.out.below hbw).at hlt
      obtain ⟨c0, c1, c2⟩ := hc k hlt
      have HT := Lib.hid (any_true_at (p := badE s.size) hlt)
      have HF := Lib.hid (any_false_take (p := badE s.size) hlt HK.out)
      have HBE : RowKit.Hid (badE s.size l[k] = (decide (l[k].fr < 0) || decide (l[k].to < l[k].fr) || decide ((s.size : Int) < l[k].to))) := rfl
      clear hc HK
      generalize l[k] = e at *
      obtain ⟨x0, x1, x2⟩ := e
      simp only at c0 c1 c2
      have HBE2 : RowKit.Hid (badE s.size ⟨x0, x1, x2⟩ = (decide (x0 < 0) || decide (x1 < x0) || decide ((s.size : Int) < x1))) := HBE.out
      by_cases h0 : x0 < 0
      · have d0 : decide (x0 < 0) = true := decide_eq_true h0
        go_wp2_with fail
        go_quiet (fail)
        go_wp2_with fail
        go_ret
        exact ⟨by unfold checkP; rw [HT.out (by rw [HBE2.out]; simp [h0])]; rfl, below_drewN hbw⟩
      · have d0 : decide (x0 < 0) = false := decide_eq_false h0
        by_cases h1 : x1 < x0
        · have d1 : decide (x1 < x0) = true := decide_eq_true h1
          go_wp2_with fail
          go_quiet (fail)
          go_wp2_with fail
          go_ret
          exact ⟨by unfold checkP; rw [HT.out (by rw [HBE2.out]; simp [h1])]; rfl, below_drewN hbw⟩
        · have d1 : decide (x1 < x0) = false := decide_eq_false h1
          by_cases h2 : (s.size : Int) < x1
          · have d2 : decide ((s.size : Int) < x1) = true := decide_eq_true h2
            go_wp2_with fail
            go_quiet (fail)
            go_wp2_with fail
            go_ret
            exact ⟨by unfold checkP; rw [HT.out (by rw [HBE2.out]; simp [h2])]; rfl, below_drewN hbw⟩
          · have d2 : decide ((s.size : Int) < x1) = false := decide_eq_false h2
            go_wp2_with fail
            go_quiet (fail)
            go_wp2_with fail
            go_roundw
            case rel => exact ⟨k + 1, by omega, by go_num, HF.out (by rw [HBE2.out]; simp; omega), below_drewN hbw⟩
            case measure => simp [RowKit.intOf]; omega
    · obtain rfl : k = l.length := by omega
      rw [List.take_length] at HK
      rename World => wo
      have hs := refSorted_any a cap l (by omega) wo ((HI.out.below hbw).mono hbw.size)
      have hsl : (ss ltE l).length = l.length := ss_length ltE l
      have HFIN : RowKit.Hid (∀ b : Bool, lapP (ss ltE l) = b → checkP s.size l = if b then 21 else 0) := fun b hb => by unfold checkP; rw [HK.out, hb]; rfl
      have HSL := Lib.hid hsl
      clear HK hsl
      generalize ss ltE l = S at *
      go_wp2_with fail
      refine hs.mono ?_
      clear hs
      rintro e w1 ⟨⟨a1, cap1, rfl, hI1⟩, b1⟩
      have HI1 := Lib.hid hI1
      have HB1 := Lib.hid (hbw.trans (b1.mono hbw.size))
      clear hI1 b1
      go_wp2_with fail
      go_loopw [7] (fun iv wr => ∃ k : Nat, k ≤ l.length ∧ iv = .int .i64 k ∧ RowKit.Hid (∀ i (h : i + 1 < S.length), i < k → S[i].to ≤ S[i + 1].fr) ∧ Below w1.heap.size w1 wr) (fun iv _ => l.length - (RowKit.intOf iv).toNat)
      case atStart => exact ⟨0, Nat.zero_le _, rfl, (fun i h hi => by omega), Below.refl _ _⟩
      case round =>
        obtain ⟨k, hk, rfl, HK, hbx⟩ := hrel
        have zx := HB1.out.size
        by_cases hlt : k + 1 < l.length
        · have hlt' : (k : Int) + 1 < (l.length : Int) := by omega
          have hlt0 : (k : Int) < (l.length : Int) := by omega
          have hkS : k + 1 < S.length := by rw [HSL.out]; exact hlt
          obtain ⟨g, off, rfl, hg, -, hc⟩ := (HI1.out.below hbx).at hkS
          obtain ⟨c0, c1, c2⟩ := hc k (by omega)
          obtain ⟨d0, d1, d2⟩ := hc (k + 1) hkS
          have m0 : (0 : Int) ≤ (k : Int) + 1 := by omega
          have em : ((k : Int) + 1).toNat = k + 1 := by omega
          have mw : IntKind.i64.wrap ((k : Int) + 1) = (k : Int) + 1 := by rw [IntKind.wrap_i64]; omega
          have HT := Lib.hid (lapP_true S k hkS)
          have HF : RowKit.Hid (¬ S[k + 1].fr < S[k].to → ∀ i (h : i + 1 < S.length), i < k + 1 → S[i].to ≤ S[i + 1].fr) := fun h0 i h hi => by
            rcases Nat.lt_or_ge i k with h1 | h1
            · exact HK.out i h h1
            · obtain rfl : i = k := by omega
              exact Int.not_lt.1 h0
          clear hc HK
          generalize S[k + 1] = y at *
          generalize S[k] = x at *
          by_cases hxy : y.fr < x.to
          · have dxy : decide (y.fr < x.to) = true := decide_eq_true hxy
            go_wp2_with fail
            go_quiet (fail)
            go_wp2_with fail
            go_ret
            exact ⟨by rw [HFIN.out true (HT.out hxy)]; rfl, HB1.out.trans ((below_drewN hbx).mono (by omega))⟩
          · have dxy : decide (y.fr < x.to) = false := decide_eq_false hxy
            go_wp2_with fail
            go_quiet (fail)
            go_wp2_with fail
            go_roundw
            case rel => exact ⟨k + 1, by omega, by go_num, HF.out hxy, below_drewN hbx⟩
            case measure => simp [RowKit.intOf]; omega
        · have hlt' : ¬ (k : Int) + 1 < (l.length : Int) := by omega
          go_wp2
          go_ret
          exact ⟨by rw [HFIN.out false (lapP_false S (fun i h => HK.out i h (by have := HSL.out; omega)))]; rfl, HB1.out.trans (hbx.mono (by omega))⟩
end Go.Proofs.Ytkhpoeolnhfflaa
