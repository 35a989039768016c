/-
  stetref02.Apply and stetref00.SameEdits: what they answer. Conditions: sizes within a million, at most 1000 edits.
-/
import Derived.Test.YtkhpoeolnhfflaaEditApply
import Derived.Lib.AppendStr
import Derived.Laws.BytesArg
set_option linter.unusedSimpArgs false
set_option linter.unusedVariables false
namespace Go.Proofs.Ytkhpoeolnhfflaa
open Go.Shelf Go.RowKit Go.Lib Go.Sort

theorem strOfNums_bytes (l : List UInt8) : strOfNums (l.map fun b => (b.toNat : Int)) = ⟨l.toArray⟩ := by
  have h : ((l.map fun b => (b.toNat : Int)).map fun n => UInt8.ofNat n.toNat) = l := by
    rw [List.map_map]
    conv => rhs; rw [← List.map_id l]
    refine List.map_congr_left fun b _ => ?_
    simp
  show (⟨((l.map fun b => (b.toNat : Int)).map fun n => UInt8.ofNat n.toNat).toArray⟩ : ByteArray) = _
  rw [h]

theorem own_form2 {w : World} {base n : Nat} {e : TypeId} {v : Value} {xs : List Value} (h : w.ownsRow base e 1 v n xs) (hv : v ≠ .slice none 0 0) : ∃ g cap, v = .slice (some ⟨g, 0, none⟩) n cap := by
  rcases h.2 with ⟨h0, _⟩ | ⟨g, cap, _, h1, _⟩
  · exact absurd h0 hv
  · exact ⟨g, cap, h1⟩

set_option maxHeartbeats 8000000 in
set_option maxRecDepth 100000 in
theorem refApply_ok (s : ByteArray) (hsz : s.size ≤ 1000000) (a : Option Addr) (cap : Nat) (l : List EditP) (hl : l.length ≤ 1000) (hx : ∀ e ∈ l, e.text.size ≤ 1000000) (w : World) (hI : EditsIn w.heap.size w (.slice a l.length cap) l) (hch : checkP s.size l = 0) :
    Calls Try.prog 32 #[.string s, .slice a l.length cap] w fun e w' => e = .returned (.tuple #[.string ⟨(applyB s.data.toList 0 (ss ltE l)).toArray⟩, .int .i64 0]) ∧ Below w.heap.size w w' := by
  obtain ⟨i0, hi, hz0, hz1, hz2⟩ := info_parts infoByte
  have hC := refCheck_any s hsz a cap l (by omega) w hI
  rw [hch] at hC
  obtain ⟨hok, hlap⟩ := checked_ok hch
  have HOK := Lib.hid hok
  have HLAP := Lib.hid (lapP_adj _ hlap)
  have HX := Lib.hid (show ∀ e ∈ ss ltE l, e.text.size ≤ 1000000 from fun e he => hx e ((ss_perm ltE l).mem_iff.1 he))
  have HI := Lib.hid hI
  clear hch hok hlap hx hI
  go_enter Try.func32, Try.ntmps32
  go_wp2_with fail
  refine hC.mono ?_
  clear hC
  rintro e w1 ⟨rfl, b1⟩
  have z1 := b1.size
  have hS := refSorted_any a cap l (by omega) w1 ((HI.out.below b1).mono z1)
  have HSL := Lib.hid (ss_length ltE l)
  generalize hSS : ss ltE l = S at *
  have HSS := Lib.hid hSS
  clear hSS
  go_wp2_with fail
  refine hS.mono ?_
  clear hS
  rintro e w2 ⟨⟨a2, cap2, rfl, hI2⟩, b2⟩
  have z2 := b2.size
  have HI2 := Lib.hid hI2
  have HB2 := Lib.hid (b1.trans (b2.mono z1))
  clear hI2 b1 b2
  have hN : Below w2.heap.size w2 (w2.alloc (.cells #[] 5)) := (Below.refl _ w2).alloc (Nat.le_refl _) _
  have hown0 : (w2.alloc (.cells #[] 5)).ownsRow w2.heap.size 5 1 (.slice (some ⟨w2.heap.size, 0, none⟩) 0 0) 0 [] := ⟨rfl, .inr ⟨w2.heap.size, 0, #[], rfl, Nat.le_refl _, heap_alloc_new w2 _, Nat.le_refl _, by decide, rfl, rfl⟩⟩
  go_wp2_with fail
  go_loopw [8, 9, 10] (fun ov av iv wr => ∃ (k p : Nat) (acc : List UInt8) (g c : Nat), k ≤ l.length ∧ iv = .int .i64 k ∧ av = .int .i64 p ∧ ov = .slice (some ⟨g, 0, none⟩) acc.length c ∧ p ≤ s.size ∧ wr.ownsRow w2.heap.size 5 1 (.slice (some ⟨g, 0, none⟩) acc.length c) acc.length (Lib.byteCells acc) ∧ acc.length ≤ k * 2000000 ∧
      RowKit.Hid (acc ++ applyB s.data.toList p (S.drop k) = applyB s.data.toList 0 S) ∧ RowKit.Hid (∀ h : k < S.length, (p : Int) ≤ S[k].fr) ∧ Below w2.heap.size w2 wr) (fun _ _ iv _ => l.length - (RowKit.intOf iv).toNat)
  case atStart => exact ⟨0, 0, [], w2.heap.size, 0, Nat.zero_le _, rfl, rfl, rfl, Nat.zero_le _, hown0, by simp, rfl, (fun h => (HOK.out _ (List.getElem_mem h)).1), hN⟩
  case round =>
    clear hown0 hN
    obtain ⟨k, p, acc, g, c, hk, rfl, rfl, rfl, hps, hown, hal, HA, HP, hbw⟩ := hrel
    have zw := hbw.size
    by_cases hlt : k < l.length
    · have hlt' : (k : Int) < (l.length : Int) := by omega
      have hkS : k < S.length := by rw [HSL.out]; exact hlt
      obtain ⟨o1, o2, o3⟩ := HOK.out S[k] (List.getElem_mem hkS)
      have htx := HX.out S[k] (List.getElem_mem hkS)
      have hpf := HP.out hkS
      obtain ⟨gS, off, rfl, hg, -, hc⟩ := HI2.out.at hkS
      have HCC := Lib.hid (show ∀ wx, Below w2.heap.size w2 wx → EditAt wx gS (off + k * 3) S[k] from fun wx hx => by
        have := hc k hkS
        exact ⟨by rw [hx.cell (p := ⟨gS, _, none⟩) hg]; exact this.fr, by rw [hx.cell (p := ⟨gS, _, none⟩) hg]; exact this.to, by rw [hx.cell (p := ⟨gS, _, none⟩) hg]; exact this.text⟩)
      have HST : RowKit.Hid (applyB s.data.toList p (S.drop k) = (s.data.toList.drop p).take (S[k].fr.toNat - p) ++ S[k].text.data.toList ++ applyB s.data.toList S[k].to.toNat (S.drop (k + 1))) := by
        show _ = _
        rw [List.drop_eq_getElem_cons hkS]; rfl
      have HPN : RowKit.Hid (∀ h : k + 1 < S.length, S[k].to ≤ S[k + 1].fr) := fun h => HLAP.out k h
      clear hc HP
      generalize hek : S[k] = e at *
      obtain ⟨x0, x1, x2⟩ := e
      simp only at o1 o2 o3 htx hpf
      obtain ⟨f, rfl⟩ : ∃ f : Nat, x0 = f := ⟨x0.toNat, by omega⟩
      obtain ⟨t, rfl⟩ : ∃ t : Nat, x1 = t := ⟨x1.toNat, by omega⟩
      obtain ⟨c0, c1, c2⟩ := HCC.out wr hbw
      have hpf' : p ≤ f := by omega
      have hfs : f ≤ s.size := by omega
      have hpfi : (p : Int) ≤ (f : Int) := by omega
      have hfsi : (f : Int) ≤ (s.size : Int) := by omega
      have hes : (s.extract p f).size ≤ 1000000 := by rw [ByteArray.size_extract]; omega
      have HXS := Lib.hid (show (s.extract p f).size = f - p by rw [ByteArray.size_extract]; omega)
      have hba1 : acc.length + (s.extract p f).size ≤ 140737488355328 := by omega
      have hba2 : acc.length + (s.extract p f).size + x2.size ≤ 140737488355328 := by omega
      go_wp2_with (first
        | (at_builtin; (refine wpList_append_own_string _ rfl _ _ 55 9 rfl w2.heap.size 5 i0 Try.underlying55 Try.underlying9 hi hz0 hz1 hz2 _ _ _ rfl hown2 x2 rfl (by unfold maxLen; omega) (by omega) (by omega) ?_); intro v3 w4 hown3 hgrow3 hne3; obtain ⟨g3, c3, rfl⟩ := own_form2 hown3 (fun e => by have := (hne3.1 e).1; cases this); have hb4 := hb3.grown hgrow3 zw3 (fun kk hk => (ownsRow_lt hown2 hk).1); obtain ⟨e0, e1, e2⟩ := HCC.out _ hb4)
        | (at_builtin; (refine wpList_append_own_string _ rfl _ _ 55 9 rfl w2.heap.size 5 i0 Try.underlying55 Try.underlying9 hi hz0 hz1 hz2 _ _ _ rfl hown (s.extract p f) rfl (by unfold maxLen; omega) (by omega) (by omega) ?_); intro v2 w3 hown2 hgrow2 hne2; rw [HXS.out] at hown2; obtain ⟨g2, c2', rfl⟩ := own_form2 hown2 (fun e => by have := (hne2.1 e).1; cases this); have hb3 := hbw.grown hgrow2 zw (fun kk hk => (ownsRow_lt hown hk).1); obtain ⟨d0, d1, d2⟩ := HCC.out _ hb3; have zw3 := hb3.size))
      go_roundw
      case rel =>
        have e1 : (s.extract p f).data.toList.length = (s.extract p f).size := by rw [Array.length_toList]; rfl
        have e2 : x2.data.toList.length = x2.size := by rw [Array.length_toList]; rfl
        have e3 : (acc ++ (s.extract p f).data.toList ++ x2.data.toList).length = acc.length + (s.extract p f).size + x2.size := by rw [List.length_append, List.length_append, e1, e2]
        rw [← HXS.out] at hown3 ⊢
        refine ⟨k + 1, t, acc ++ (s.extract p f).data.toList ++ x2.data.toList, g3, c3, by omega, by go_num, rfl, by rw [e3], by omega, ?_, by rw [e3]; omega, ?_, (fun h => by have := HPN.out h; simpa using this), hb4⟩
        · rw [e3, Lib.byteCells_append, Lib.byteCells_append]; exact hown3
        · show _ = _
          rw [← HA.out, HST.out, extract_list]
          simp only [Int.toNat_natCast, List.append_assoc]
      case measure => simp [RowKit.intOf]; omega
    · obtain rfl : k = l.length := by omega
      have hlt' : ¬ (l.length : Int) < (l.length : Int) := by omega
      have hpsi : (p : Int) ≤ (s.size : Int) := by omega
      have hes : (s.extract p s.size).size ≤ 1000000 := by rw [ByteArray.size_extract]; omega
      have HFIN : RowKit.Hid (acc ++ (s.extract p s.size).data.toList = applyB s.data.toList 0 S) := by
        show _ = _
        rw [← HA.out, List.drop_of_length_le (by rw [HSL.out]; exact Nat.le_refl _), extract_list, List.take_of_length_le (by rw [List.length_drop]; exact Nat.le_refl _)]; rfl
      have hcv : ∀ (wq : World) (gq cq : Nat) (L : List UInt8), wq.ownsRow w2.heap.size 5 1 (.slice (some ⟨gq, 0, none⟩) L.length cq) L.length (Lib.byteCells L) → (convert 55 9 (.slice (some ⟨gq, 0, none⟩) L.length cq)).run Try.prog wq = .ok (.string ⟨L.toArray⟩) wq := fun wq gq cq L hown => by
        have h := run_convert_bytes_arg (P := Try.prog) wq 55 5 Try.underlying55 Try.underlying5 gq 0 L.length cq (L.map fun b => (b.toNat : Int)) (by simp) (by
          intro i hi
          have := hown.cellAt i (by omega)
          rw [Nat.zero_add, this]
          simp [byteCells, List.getD, List.getElem?_eq_getElem hi]) 9 Try.underlying9
        rw [h, ← strOfNums_bytes]
      have e1 : (s.extract p s.size).data.toList.length = (s.extract p s.size).size := by rw [Array.length_toList]; rfl
      have e3 : (acc ++ (s.extract p s.size).data.toList).length = acc.length + (s.extract p s.size).size := by rw [List.length_append, e1]
      have HXS := Lib.hid (show (s.extract p s.size).size = s.size - p by rw [ByteArray.size_extract]; omega)
      rw [HXS.out] at e3
      have HCV := Lib.hid hcv
      have HE3 := Lib.hid e3
      clear hcv e1 e3
      go_wp2_with (at_builtin; (refine wpList_append_own_string _ rfl _ _ 55 9 rfl w2.heap.size 5 i0 Try.underlying55 Try.underlying9 hi hz0 hz1 hz2 _ _ _ rfl hown (s.extract p s.size) rfl (by unfold maxLen; omega) (by omega) (by omega) ?_); intro v2 w3 hown2 hgrow2 hne2; rw [HXS.out] at hown2; obtain ⟨g2, c2', rfl⟩ := own_form2 hown2 (fun e => by have := (hne2.1 e).1; cases this); have hb3 := hbw.grown hgrow2 zw (fun kk hk => (ownsRow_lt hown hk).1); have hcv3 := HCV.out w3 g2 c2' (acc ++ (s.extract p s.size).data.toList) (by rw [HE3.out, Lib.byteCells_append]; exact hown2); rw [HE3.out, HFIN.out] at hcv3)
      first | go_ret2 | go_ret
      exact ⟨by rw [HSS.out]; first | rfl | simp, HB2.out.trans (hb3.mono (by have := HB2.out.size; omega))⟩

set_option maxHeartbeats 4000000 in
set_option maxRecDepth 100000 in
theorem refApply_bad (s : ByteArray) (hsz : s.size ≤ 1000000) (a : Option Addr) (cap : Nat) (l : List EditP) (hl : l.length ≤ 1000) (w : World) (hI : EditsIn w.heap.size w (.slice a l.length cap) l) (hch : checkP s.size l ≠ 0) :
    Calls Try.prog 32 #[.string s, .slice a l.length cap] w fun e w' => e = .returned (.tuple #[.string ⟨#[]⟩, .int .i64 (checkP s.size l)]) ∧ Below w.heap.size w w' := by
  have hC := refCheck_any s hsz a cap l (by omega) w hI
  clear hI
  generalize checkP s.size l = c at *
  have hb : (c == 0) = false := beq_eq_false_iff_ne.2 hch
  have hb2 : (c != 0) = true := bne_iff_ne.2 hch
  go_enter Try.func32, Try.ntmps32
  go_wp2_with fail
  refine hC.mono ?_
  clear hC
  rintro e w1 ⟨rfl, b1⟩
  go_wp2_with fail
  first | go_ret2 | go_ret
  exact ⟨by first | rfl | simp, b1⟩

set_option maxHeartbeats 4000000 in
set_option maxRecDepth 100000 in
theorem sameEdits_any (a1 a2 : Option Addr) (c1 c2 : Nat) (l : List EditP) (hl : l.length ≤ 1000000) (w : World) (h1 : EditsIn w.heap.size w (.slice a1 l.length c1) l) (h2 : EditsIn w.heap.size w (.slice a2 l.length c2) l) :
    Calls Try.prog 20 #[.slice a1 l.length c1, .slice a2 l.length c2] w fun e w' => e = .returned (.bool true) ∧ Below w.heap.size w w' := by
  have H1 := Lib.hid h1
  have H2 := Lib.hid h2
  have mixed : Try.prog.follows Departure.mixedOrders = true := rfl
  clear h1 h2
  go_enter Try.func20, Try.ntmps20
  go_wp2
  go_loopw [5] (fun iv wr => ∃ k : Nat, k ≤ l.length ∧ iv = .int .i64 k ∧ Below w.heap.size w wr) (fun iv _ => l.length - (RowKit.intOf iv).toNat)
  case atStart => exact ⟨0, Nat.zero_le _, rfl, Below.refl _ _⟩
  case round =>
    obtain ⟨k, hk, rfl, hbw⟩ := hrel
    by_cases hlt : k < l.length
    · have hlt' : (k : Int) < (l.length : Int) := by omega
      obtain ⟨g, off, rfl, hg, -, hc⟩ := (H1.out.below hbw).at hlt
      obtain ⟨g2, off2, rfl, hg2, -, hc2⟩ := (H2.out.below hbw).at hlt
      obtain ⟨c0, c1, c2⟩ := hc k hlt
      obtain ⟨d0, d1, d2⟩ := hc2 k hlt
      clear hc hc2
      generalize l[k] = e at *
      obtain ⟨x0, x1, x2⟩ := e
      simp only at c0 c1 c2 d0 d1 d2
      go_wp2_with fail
      go_quiet (fail)
      go_wp2_with fail
      go_roundw
      case rel => exact ⟨k + 1, by omega, by go_num, below_drewN hbw⟩
      case measure => simp [RowKit.intOf]; omega
    · obtain rfl : k = l.length := by omega
      go_wp2
      go_ret
      exact ⟨rfl, hbw⟩
end Go.Proofs.Ytkhpoeolnhfflaa
