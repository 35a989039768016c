/-
  edit.Check: what it answers. Conditions: sizes within a million.
-/
import Derived.Test.YtkhpoeolnhfflaaRefMove
set_option linter.unusedSimpArgs false
set_option linter.unusedVariables false
namespace Go.Proofs.Ytkhpoeolnhfflaa
open Go.Shelf Go.RowKit Go.Lib Go.Sort

set_option maxHeartbeats 2000000 in
set_option maxRecDepth 100000 in
theorem checkFn_any (s : ByteArray) (hsz : s.size ≤ 1000000) (L : Nat) (e : EditP) (w : World) (hL : L < w.heap.size) (hs : w.cell? ⟨L, 0, none⟩ = some (.string s)) :
    Calls Try.prog 42 #[.agg (encE e).toArray, .pointer (some ⟨L, 0, none⟩)] w fun r w' => r = .returned (.bool (badE s.size e)) ∧ Below w.heap.size w w' := by
  obtain ⟨x0, x1, x2⟩ := e
  have hbe : badE s.size ⟨x0, x1, x2⟩ = (decide (x0 < 0) || decide (x1 < x0) || decide ((s.size : Int) < x1)) := rfl
  rw [hbe]
  have hN : Below w.heap.size w (w.alloc (.cells #[.int .i64 x0, .int .i64 x1, .string x2] 50)) := (Below.refl _ w).alloc (Nat.le_refl _) _
  have hs2 := (hN.cell (p := ⟨L, 0, none⟩) hL).trans hs
  unfold encE
  by_cases h0 : x0 < 0
  · have d0 : decide (x0 < 0) = true := decide_eq_true h0
    go_enter Try.func42, Try.ntmps42
    go_wp2_with fail
    go_ret
    exact ⟨by simp [h0], hN⟩
  · have d0 : decide (x0 < 0) = false := decide_eq_false h0
    by_cases h1 : x1 < x0
    · have d1 : decide (x1 < x0) = true := decide_eq_true h1
      go_enter Try.func42, Try.ntmps42
      go_wp2_with fail
      go_ret
      exact ⟨by simp [h1], hN⟩
    · have d1 : decide (x1 < x0) = false := decide_eq_false h1
      go_enter Try.func42, Try.ntmps42
      go_wp2_with fail
      go_ret
      exact ⟨by simp [h0, h1], hN⟩

/-- What a function of edits that reads alone answers. -/
def Tests (g : Nat) (cb : Array Value) (p : EditP → Bool) (w : World) : Prop := ∀ (e : EditP) (wx : World), Below w.heap.size w wx → Calls Try.prog g (#[.agg (encE e).toArray] ++ cb) wx fun r w' => r = .returned (.bool (p e)) ∧ Below wx.heap.size wx w'

set_option maxHeartbeats 4000000 in
set_option maxRecDepth 100000 in
theorem indexFunc_any (g : Nat) (cb : Array Value) (p : EditP → Bool) (eg : ∀ args w, (callFunc g args).run Try.prog w = .ok (.enter g args) w) (a : Option Addr) (cap : Nat) (l : List EditP) (hl : l.length ≤ 1000000) (w : World) (hI : EditsIn w.heap.size w (.slice a l.length cap) l) (hT : Tests g cb p w) :
    Calls Try.prog 51 #[.slice a l.length cap, .func (.func g) #[] cb] w fun e w' => (∃ i : Int, e = .returned (.int .i64 i) ∧ (decide (0 ≤ i) = l.any p)) ∧ Below w.heap.size w w' := by
  have HI := Lib.hid hI
  have HT := Lib.hid hT
  clear hI hT
  go_enter Try.func51, Try.ntmps51
  go_wp2
  go_loopw [5, 8] (fun _ iv wr => ∃ k : Nat, k ≤ l.length ∧ iv = .int .i64 k ∧ RowKit.Hid ((l.take k).any p = false) ∧ Below w.heap.size w wr) (fun _ iv _ => l.length - (RowKit.intOf iv).toNat)
  case atStart => exact ⟨0, Nat.zero_le _, rfl, rfl, Below.refl _ _⟩
  case round =>
    obtain ⟨k, hk, rfl, HK, hbw⟩ := hrel
    by_cases hlt : k < l.length
    · have hlt' : (k : Int) < (l.length : Int) := by omega
      have zw := hbw.size
      obtain ⟨gl, off, rfl, hg, -, hc⟩ := (HI.out.below hbw).at hlt
      obtain ⟨c0, c1, c2⟩ := hc k hlt
      have HTR := Lib.hid (any_true_at (p := p) hlt)
      have HF := Lib.hid (any_false_take (p := p) hlt HK.out)
      have hcl := HT.out l[k] wr hbw
      have hev : (encE l[k]).toArray = #[.int .i64 l[k].fr, .int .i64 l[k].to, .string l[k].text] := rfl
      rw [hev] at hcl
      clear hc HK hev
      generalize l[k] = e at *
      cases hp : p e
      · rw [hp] at hcl
        go_wp2_with (go_at_fn g; refine hcl.mono ?_; clear hcl; rintro r w1 ⟨rfl, b1⟩)
        go_roundw
        case rel => exact ⟨k + 1, by omega, by go_num, HF.out hp, hbw.trans (b1.mono (by omega))⟩
        case measure => simp [RowKit.intOf]; omega
      · rw [hp] at hcl
        go_wp2_with (go_at_fn g; refine hcl.mono ?_; clear hcl; rintro r w1 ⟨rfl, b1⟩)
        go_ret
        exact ⟨⟨k, rfl, by rw [HTR.out hp]; simp⟩, hbw.trans (b1.mono (by omega))⟩
    · obtain rfl : k = l.length := by omega
      rw [List.take_length] at HK
      go_wp2
      go_ret
      exact ⟨⟨-1, rfl, by rw [HK.out]; rfl⟩, hbw⟩

set_option maxHeartbeats 2000000 in
set_option maxRecDepth 100000 in
theorem containsFunc_any (g : Nat) (cb : Array Value) (p : EditP → Bool) (eg : ∀ args w, (callFunc g args).run Try.prog w = .ok (.enter g args) w) (a : Option Addr) (cap : Nat) (l : List EditP) (hl : l.length ≤ 1000000) (w : World) (hI : EditsIn w.heap.size w (.slice a l.length cap) l) (hT : Tests g cb p w) :
    Calls Try.prog 38 #[.slice a l.length cap, .func (.func g) #[] cb] w fun e w' => e = .returned (.bool (l.any p)) ∧ Below w.heap.size w w' := by
  have hx := indexFunc_any g cb p eg a cap l hl w hI hT
  clear hI hT
  go_enter Try.func38, Try.ntmps38
  go_wp2_with fail
  refine hx.mono ?_
  rintro e w1 ⟨⟨i, rfl, hi⟩, b1⟩
  have HI2 := Lib.hid hi
  clear hi hx
  go_wp2_with fail
  go_ret
  exact ⟨by simpa using HI2.out, b1⟩

theorem chain_ok : ∀ (l : List EditP), (∀ e ∈ l, 0 ≤ e.fr) → (∀ i (h : i < l.length), ¬ l[i].fr < (if i = 0 then 0 else (l[i - 1]?.getD default).to)) → lapP l = false := by
  intro l _ h
  refine lapP_false l fun i hi => ?_
  have := h (i + 1) hi
  simp only [Nat.add_one_ne_zero, if_false, Nat.add_sub_cancel, List.getElem?_eq_getElem (show i < l.length by omega), Option.getD_some] at this
  omega

set_option maxHeartbeats 8000000 in
set_option maxRecDepth 100000 in
theorem editCheck_any (s : ByteArray) (hsz : s.size ≤ 1000000) (a : Option Addr) (cap : Nat) (l : List EditP) (hl : l.length ≤ 1000000) (w : World) (hI : EditsIn w.heap.size w (.slice a l.length cap) l) :
    Calls Try.prog 28 #[.string s, .slice a l.length cap] w fun e w' => e = .returned (.int .i64 (checkP s.size l)) ∧ Below w.heap.size w w' := by
  have hN : Below w.heap.size w (w.alloc (.cells #[.string s] 9)) := (Below.refl _ w).alloc (Nat.le_refl _) _
  have hNs : (w.alloc (.cells #[.string s] 9)).heap.size = w.heap.size + 1 := by simp
  have hs : (w.alloc (.cells #[.string s] 9)).cell? ⟨w.heap.size, 0, none⟩ = some (.string s) := by simp
  have hIN := (hI.below hN).mono (show w.heap.size ≤ (w.alloc (.cells #[.string s] 9)).heap.size by omega)
  have hCF := containsFunc_any 42 #[.pointer (some ⟨w.heap.size, 0, none⟩)] (badE s.size) (enters_of Try.func42 (by kernel_rfl) rfl) a cap l hl _ hIN (fun e wx hx => by
    have z := hx.size
    exact checkFn_any s hsz w.heap.size e wx (by omega) ((hx.cell (p := ⟨w.heap.size, 0, none⟩) (by show w.heap.size < _; omega)).trans hs))
  have HIN := Lib.hid hIN
  have HN := Lib.hid hN
  clear hI hIN hN hs
  go_enter Try.func28, Try.ntmps28
  go_wp2_with fail
  refine hCF.mono ?_
  clear hCF
  rintro e w1 ⟨rfl, b1⟩
  have hb1 := HN.out.trans (b1.mono (by omega))
  have hI1 := (HIN.out.below b1).mono b1.size
  clear b1 hNs
  cases hany : l.any (badE s.size)
  · have hso := sorted_any a cap l hl w1 hI1
    have hfr : ∀ e ∈ ss ltE l, 0 ≤ e.fr := fun e he => by
      have := List.any_eq_false.1 hany e ((ss_perm ltE l).mem_iff.1 he)
      simp [badE] at this
      omega
    have HFR := Lib.hid hfr
    have HFIN : RowKit.Hid (∀ b : Bool, lapP (ss ltE l) = b → checkP s.size l = if b then 21 else 0) := fun b hb => by unfold checkP; rw [hany, hb]; rfl
    have HSL := Lib.hid (ss_length ltE l)
    have hz1 := hb1.size
    clear hany hI1 hfr
    generalize ss ltE l = S at *
    go_wp2_with fail
    refine hso.mono ?_
    clear hso
    rintro e w2 ⟨⟨a2, cap2, rfl, hI2, -⟩, b2⟩
    have HI2 := Lib.hid hI2
    have HB2 := Lib.hid (hb1.trans (b2.mono hz1))
    clear hI2 b2 hb1
    go_wp2_with fail
    go_loopw [5, 14] (fun ev iv wr => ∃ k : Nat, k ≤ l.length ∧ iv = .int .i64 k ∧ ev = .int .i64 (if k = 0 then 0 else (S[k - 1]?.getD default).to) ∧ RowKit.Hid (∀ i (h : i < S.length), i < k → ¬ S[i].fr < (if i = 0 then 0 else (S[i - 1]?.getD default).to)) ∧ Below w2.heap.size w2 wr) (fun _ iv _ => l.length - (RowKit.intOf iv).toNat)
    case atStart => exact ⟨0, Nat.zero_le _, rfl, by simp, (fun i h hi => by omega), Below.refl _ _⟩
    case round =>
      obtain ⟨k, hk, rfl, rfl, HK, hbx⟩ := hrel
      have zx := HB2.out.size
      have zy := hbx.size
      by_cases hlt : k < l.length
      · have hlt' : (k : Int) < (l.length : Int) := by omega
        have hkS : k < S.length := by rw [HSL.out]; exact hlt
        obtain ⟨g, off, rfl, hg, -, hc⟩ := (HI2.out.below hbx).at hkS
        obtain ⟨c0, c1, c2⟩ := hc k hkS
        obtain ⟨E, hE⟩ : ∃ E : Int, E = (if k = 0 then 0 else (S[k - 1]?.getD default).to) := ⟨_, rfl⟩
        rw [← hE]
        have HF : RowKit.Hid (¬ S[k].fr < E → ∀ i (h : i < S.length), i < k + 1 → ¬ S[i].fr < (if i = 0 then 0 else (S[i - 1]?.getD default).to)) := fun h0 i h hi => by
          rcases Nat.lt_or_ge i k with h1 | h1
          · exact HK.out i h h1
          · obtain rfl : i = k := by omega
            rw [← hE]; exact h0
        have HT : RowKit.Hid (S[k].fr < E → lapP S = true) := fun h0 => by
          have hf := HFR.out S[k] (List.getElem_mem hkS)
          rcases Nat.eq_zero_or_pos k with hk0 | hk0
          · rw [if_pos hk0] at hE; omega
          · rw [if_neg (by omega), List.getElem?_eq_getElem (show k - 1 < S.length by omega), Option.getD_some] at hE
            refine lapP_true S (k - 1) (by omega) ?_
            simp only [show k - 1 + 1 = k by omega]
            omega
        have HNX : RowKit.Hid (S[k].to = (if k + 1 = 0 then 0 else (S[k + 1 - 1]?.getD default).to)) := by
          show _ = _
          rw [if_neg (by omega), Nat.add_sub_cancel, List.getElem?_eq_getElem hkS]; rfl
        clear hc HK hE
        generalize S[k] = e at *
        by_cases hlap : e.fr < E
        · have dl1 : decide (e.fr < E) = true := decide_eq_true hlap
          go_wp2_with fail
          go_ret
          exact ⟨by rw [HFIN.out true (HT.out hlap)]; rfl, HB2.out.trans ((hbx.alloc zy _).mono (by omega))⟩
        · have dl1 : decide (e.fr < E) = false := decide_eq_false hlap
          go_wp2_with fail
          go_roundw
          case rel => exact ⟨k + 1, by omega, by go_num, by rw [HNX.out], HF.out hlap, hbx.alloc zy _⟩
          case measure => simp [RowKit.intOf]; omega
      · have hlt' : ¬ (k : Int) < (l.length : Int) := by omega
        generalize (if k = 0 then 0 else (S[k - 1]?.getD default).to) = E
        go_wp2
        go_ret
        exact ⟨by rw [HFIN.out false (chain_ok S HFR.out (fun i h => by have := HK.out i h (by have := HSL.out; omega); exact Int.not_lt.2 this))]; rfl, HB2.out.trans (hbx.mono (by omega))⟩
  · have HFIN : RowKit.Hid (checkP s.size l = 20) := by show _ = _; unfold checkP; rw [hany]; rfl
    clear hany hI1
    go_wp2_with fail
    go_ret
    exact ⟨by rw [HFIN.out]; rfl, hb1⟩
end Go.Proofs.Ytkhpoeolnhfflaa
