/-
  edit.Apply: what it answers. Conditions: sizes within a million, at most 1000 edits.
-/
import Derived.Test.YtkhpoeolnhfflaaEditCheck
import Derived.Test.YtkhpoeolnhfflaaBuilderS
set_option linter.unusedSimpArgs false
set_option linter.unusedVariables false
namespace Go.Proofs.Ytkhpoeolnhfflaa
open Go.Shelf Go.RowKit Go.Lib Go.Sort

theorem ownsRowF_below {w w' : World} {base n size : Nat} {e : TypeId} {v : Value} {xs : List Value} (h : w.ownsRowF base e size v n xs) (hb : Below w.heap.size w w') : w'.ownsRowF base e size v n xs := by
  refine ⟨h.1, ?_⟩
  rcases h.2 with hn | ⟨g, cap, cur, fz, hv, hg, hh, rest⟩
  · exact .inl hn
  · have hlt := (Array.getElem?_eq_some_iff.1 hh).1
    exact .inr ⟨g, cap, cur, fz, hv, hg, (hb.block g hlt).trans hh, rest⟩
theorem isB_below {B b : Nat} {bs : List Value} {w w' : World} (h : IsB B b bs w) (hb : Below w.heap.size w w') : IsB B b bs w' := by
  rcases h with h | h
  · have hlt := h.lt
    obtain ⟨hB, v, hbk, hown, hne⟩ := h
    exact .inl ⟨hB, v, (hb.block b hlt).trans hbk, ownsRowF_below hown hb, hne⟩
  · have hlt := h.lt
    obtain ⟨hB, v, hbk, hown, hne⟩ := h
    exact .inr ⟨hB, v, (hb.block b hlt).trans hbk, ownsRowF_below hown hb, hne⟩

/-- What the edits of a row make of a text, from a place on. -/
def applyB (s : List UInt8) : Nat → List EditP → List UInt8
  | p, [] => s.drop p
  | p, e :: t => (s.drop p).take (e.fr.toNat - p) ++ e.text.data.toList ++ applyB s e.to.toNat t
theorem extract_list (s : ByteArray) (f k : Nat) : (s.extract f k).data.toList = (s.data.toList.drop f).take (k - f) := by
  rw [ByteArray.data_extract, Array.toList_extract, List.extract_eq_take_drop]

theorem lapP_adj (l : List EditP) (h : lapP l = false) (i : Nat) (hi : i + 1 < l.length) : l[i].to ≤ l[i + 1].fr := by
  apply Int.not_lt.1
  intro hc
  rw [lapP_true l i hi hc] at h; cases h
/-- A row that has been checked. -/
theorem checked_ok {n : Nat} {l : List EditP} (h : checkP n l = 0) : (∀ e ∈ ss ltE l, 0 ≤ e.fr ∧ e.fr ≤ e.to ∧ e.to ≤ (n : Int)) ∧ lapP (ss ltE l) = false := by
  unfold checkP at h
  cases h1 : l.any (badE n)
  · rw [h1] at h
    cases h2 : lapP (ss ltE l)
    · refine ⟨fun e he => ?_, rfl⟩
      have := List.any_eq_false.1 h1 e ((ss_perm ltE l).mem_iff.1 he)
      simp [badE] at this
      omega
    · rw [h2] at h; simp at h
  · rw [h1] at h; simp at h

/-- A row of edits stands where the builder alone writes. -/
theorem EditAt.others {w w' : World} {g o b : Nat} {e : EditP} (h : EditAt w g o e) (hT : ∃ c fz, w.heap[g]? = some (.cells c 50 fz)) (hb : g ≠ b) (hk : Lib.OthersKept 5 (some b) w w') : EditAt w' g o e := by
  obtain ⟨c, fz, hc⟩ := hT
  have h2 := hk g _ hc (by intro e; injection e with e; exact hb e) (by intro c' fz' e; cases e)
  have hcell : ∀ x, w'.cell? ⟨g, x, none⟩ = w.cell? ⟨g, x, none⟩ := fun x => by simp [World.cell?, h2, hc]
  exact ⟨by rw [hcell]; exact h.fr, by rw [hcell]; exact h.to, by rw [hcell]; exact h.text⟩

set_option maxHeartbeats 8000000 in
set_option maxRecDepth 100000 in
theorem editApply_ok (s : ByteArray) (hsz : s.size ≤ 1000000) (a : Option Addr) (cap : Nat) (l : List EditP) (hl : l.length ≤ 1000) (hx : ∀ e ∈ l, e.text.size ≤ 1000000) (w : World) (hI : EditsIn w.heap.size w (.slice a l.length cap) l) (hch : checkP s.size l = 0) :
    Calls Try.prog 31 #[.string s, .slice a l.length cap] w fun e w' => e = .returned (.tuple #[.string ⟨(applyB s.data.toList 0 (ss ltE l)).toArray⟩, .int .i64 0]) ∧ Below w.heap.size w w' := by
  have hC := editCheck_any s hsz a cap l (by omega) w hI
  rw [hch] at hC
  obtain ⟨hok, hlap⟩ := checked_ok hch
  have HOK := Lib.hid hok
  have HLAP := Lib.hid (lapP_adj _ hlap)
  have HX := Lib.hid (show ∀ e ∈ ss ltE l, e.text.size ≤ 1000000 from fun e he => hx e ((ss_perm ltE l).mem_iff.1 he))
  have HI := Lib.hid hI
  clear hch hok hlap hx hI
  go_enter Try.func31, Try.ntmps31
  go_wp2_with fail
  refine hC.mono ?_
  clear hC
  rintro e w1 ⟨rfl, b1⟩
  have z1 := b1.size
  have hB0 := (Lib.IsBuilderF.of (Lib.fresh_isBuilder 57 5 w1))
  have hNB : Below w1.heap.size w1 (w1.alloc (.cells #[.pointer none, .slice none 0 0] 57)) := (Below.refl _ w1).alloc (Nat.le_refl _) _
  have hS := sorted_any a cap l (by omega) (w1.alloc (.cells #[.pointer none, .slice none 0 0] 57)) (((HI.out.below b1).below (hNB.mono z1)).mono (by simp; omega))
  have HSL := Lib.hid (ss_length ltE l)
  generalize hSS : ss ltE l = S at *
  have HSS := Lib.hid hSS
  clear hSS
  have hNz : (w1.alloc (.cells #[.pointer none, .slice none 0 0] 57)).heap.size = w1.heap.size + 1 := by simp
  go_wp2_with fail
  refine hS.mono ?_
  clear hS
  rintro e w2 ⟨⟨a2, cap2, rfl, hI2, hT2⟩, b2⟩
  have hB2 : IsB w1.heap.size w1.heap.size (Lib.byteCells []) w2 := isB_below hB0 b2
  have hb2 : Below w1.heap.size w1 w2 := hNB.trans (b2.mono (by omega))
  have z2 := b2.size
  have HI2 := Lib.hid hI2
  have HT2 := Lib.hid hT2
  have HGB : RowKit.Hid (∀ ad, a2 = some ad → ad.block ≠ w1.heap.size) := fun ad he hc => by
    obtain ⟨c, fz, hcell⟩ := hT2 ad he
    have hbb := b2.block w1.heap.size (by omega)
    rw [hc, hbb, heap_alloc_new] at hcell
    cases hcell
  clear hI2 hT2 hB0 hNB
  have hlt2 : w1.heap.size < w2.heap.size := by omega
  have HB2 := Lib.hid (b1.trans (hb2.mono z1))
  clear b2 hb2 b1
  go_wp2_with fail
  go_loopw [8, 20] (fun av iv wr => ∃ (k p : Nat) (acc : List UInt8), k ≤ l.length ∧ iv = .int .i64 k ∧ av = .int .i64 p ∧ p ≤ s.size ∧ IsB w1.heap.size w1.heap.size (Lib.byteCells acc) wr ∧ acc.length ≤ k * 2000000 ∧
      RowKit.Hid (acc ++ applyB s.data.toList p (S.drop k) = applyB s.data.toList 0 S) ∧ RowKit.Hid (∀ h : k < S.length, (p : Int) ≤ S[k].fr) ∧ Below w1.heap.size w2 wr ∧ RowKit.Hid (Lib.OthersKept 5 (some w1.heap.size) w2 wr)) (fun _ iv _ => l.length - (RowKit.intOf iv).toNat)
  case atStart => exact ⟨0, 0, [], Nat.zero_le _, rfl, rfl, Nat.zero_le _, hB2, by simp, rfl, (fun h => (HOK.out _ (List.getElem_mem h)).1), Below.refl _ _, Lib.OthersKept.refl _ _ _⟩
  case round =>
    clear hB2
    obtain ⟨k, p, acc, hk, rfl, rfl, hps, hB, hal, HA, HP, hbw, HKP⟩ := hrel
    have zw := hbw.size
    by_cases hlt : k < l.length
    · have hlt' : (k : Int) < (l.length : Int) := by omega
      have hkS : k < S.length := by rw [HSL.out]; exact hlt
      obtain ⟨o1, o2, o3⟩ := HOK.out S[k] (List.getElem_mem hkS)
      have htx := HX.out S[k] (List.getElem_mem hkS)
      have hpf := HP.out hkS
      obtain ⟨g, off, rfl, hg, -, hc⟩ := HI2.out.at hkS
      have hgb := HGB.out _ rfl
      obtain ⟨c0, c1, c2⟩ := (hc k hkS).others (HT2.out _ rfl) hgb HKP.out
      have HST : RowKit.Hid (applyB s.data.toList p (S.drop k) = (s.data.toList.drop p).take (S[k].fr.toNat - p) ++ S[k].text.data.toList ++ applyB s.data.toList S[k].to.toNat (S.drop (k + 1))) := by
        show _ = _
        rw [List.drop_eq_getElem_cons hkS]; rfl
      have HPN : RowKit.Hid (∀ h : k + 1 < S.length, S[k].to ≤ S[k + 1].fr) := fun h => HLAP.out k h
      clear hc HP
      generalize hek : S[k] = e at *
      obtain ⟨x0, x1, x2⟩ := e
      simp only at c0 c1 c2 o1 o2 o3 htx hpf
      obtain ⟨f, rfl⟩ : ∃ f : Nat, x0 = f := ⟨x0.toNat, by omega⟩
      obtain ⟨t, rfl⟩ : ∃ t : Nat, x1 = t := ⟨x1.toNat, by omega⟩
      have hpf' : p ≤ f := by omega
      have hfs : f ≤ s.size := by omega
      have hpfi : (p : Int) ≤ (f : Int) := by omega
      have hfsi : (f : Int) ≤ (s.size : Int) := by omega
      have hBx := isB_below hB ((Below.refl wr.heap.size wr).alloc (Nat.le_refl _) (.cells #[.int .i64 f, .int .i64 t, .string x2] 50))
      have hxn := heap_alloc_new wr (.cells #[.int .i64 f, .int .i64 t, .string x2] 50)
      have hes : (s.extract p f).size ≤ 1000000 := by rw [ByteArray.size_extract]; omega
      have hcl : (Lib.byteCells acc).length = acc.length := Lib.byteCells_length acc
      have hzb : wr.heap.size ≠ w1.heap.size := by omega
      go_wp2_with fail
      refine (writeString_any w1.heap.size w1.heap.size _ (s.extract p f) _ hBx (by rw [hcl]; omega) (by simp; omega)).mono ?_
      rintro e W2 ⟨rfl, u1, bb1, k1⟩
      have hx2 := k1 wr.heap.size _ hxn (by intro e; injection e with e; exact hzb e) (by intro c fz e; cases e)
      obtain ⟨y0, y1, y2⟩ := block_three hx2
      have zz1 := bb1.size
      rw [World.size_alloc] at zz1
      go_wp2_with fail
      refine (writeString_any w1.heap.size w1.heap.size _ x2 _ (.inr u1) (by rw [List.length_append, hcl, Lib.strCells_length]; omega) (by omega)).mono ?_
      rintro e W3 ⟨rfl, u2, bb2, k2⟩
      have hx3 := k2 wr.heap.size _ hx2 (by intro e; injection e with e; exact hzb e) (by intro c fz e; cases e)
      clear y0 y1 y2
      obtain ⟨y0, y1, y2⟩ := block_three hx3
      go_wp2_with fail
      go_roundw
      case rel =>
        refine ⟨k + 1, t, acc ++ (s.extract p f).data.toList ++ x2.data.toList, by omega, by go_num, rfl, by omega, ?_, ?_, ?_, (fun h => by have := HPN.out h; simpa using this), ?_, ?_⟩
        · rw [Lib.byteCells_append, Lib.byteCells_append]; exact .inr u2
        · have e1 : (s.extract p f).data.toList.length = (s.extract p f).size := by rw [Array.length_toList]; rfl
          have e2 : x2.data.toList.length = x2.size := by rw [Array.length_toList]; rfl
          rw [List.length_append, List.length_append, e1, e2]; omega
        · show _ = _
          rw [← HA.out, HST.out, extract_list]
          simp only [Int.toNat_natCast, List.append_assoc]
        · exact (hbw.alloc (by omega) _).trans (bb1.trans bb2)
        · exact (HKP.out.alloc _).trans (k1.trans k2)
      case measure => simp [RowKit.intOf]; omega
    · obtain rfl : k = l.length := by omega
      have hlt' : ¬ (l.length : Int) < (l.length : Int) := by omega
      have hpsi : (p : Int) ≤ (s.size : Int) := by omega
      have hes : (s.extract p s.size).size ≤ 1000000 := by rw [ByteArray.size_extract]; omega
      have hcl : (Lib.byteCells acc).length = acc.length := Lib.byteCells_length acc
      have HFIN : RowKit.Hid (acc ++ (s.extract p s.size).data.toList = applyB s.data.toList 0 S) := by
        show _ = _
        rw [← HA.out, List.drop_of_length_le (by rw [HSL.out]; exact Nat.le_refl _), extract_list, List.take_of_length_le (by rw [List.length_drop]; exact Nat.le_refl _)]; rfl
      go_wp2_with fail
      refine (writeString_any w1.heap.size w1.heap.size _ (s.extract p s.size) _ hB (by rw [hcl]; omega) (by omega)).mono ?_
      rintro e W2 ⟨rfl, u1, bb1, k1⟩
      have zz1 := bb1.size
      rw [Lib.strCells_eq, ← Lib.byteCells_append, HFIN.out] at u1
      go_wp2_with fail
      refine (Try.Builder_String_any_k w1.heap.size w1.heap.size _ _ (.inr u1) (by omega)).mono ?_
      rintro e W3 ⟨rfl, _, bb2, _⟩
      go_wp2_with fail
      first | go_ret2 | go_ret
      exact ⟨by rw [HSS.out]; first | rfl | simp, HB2.out.trans ((hbw.trans (bb1.trans bb2)).mono z1)⟩

set_option maxHeartbeats 4000000 in
set_option maxRecDepth 100000 in
theorem editApply_bad (s : ByteArray) (hsz : s.size ≤ 1000000) (a : Option Addr) (cap : Nat) (l : List EditP) (hl : l.length ≤ 1000) (w : World) (hI : EditsIn w.heap.size w (.slice a l.length cap) l) (hch : checkP s.size l ≠ 0) :
    Calls Try.prog 31 #[.string s, .slice a l.length cap] w fun e w' => e = .returned (.tuple #[.string ⟨#[]⟩, .int .i64 (checkP s.size l)]) ∧ Below w.heap.size w w' := by
  have hC := editCheck_any s hsz a cap l (by omega) w hI
  clear hI
  generalize checkP s.size l = c at *
  have hb : (c == 0) = false := beq_eq_false_iff_ne.2 hch
  go_enter Try.func31, Try.ntmps31
  go_wp2_with fail
  refine hC.mono ?_
  clear hC
  rintro e w1 ⟨rfl, b1⟩
  go_wp2_with fail
  first | go_ret2 | go_ret
  exact ⟨by first | rfl | simp, b1⟩
end Go.Proofs.Ytkhpoeolnhfflaa
