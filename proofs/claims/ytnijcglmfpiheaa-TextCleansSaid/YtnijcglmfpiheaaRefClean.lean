/-
  The reference's Clean: it answers what text.Clean does. Conditions: a text of at most 1000000000 bytes.
-/
import Derived.Test.YtnijcglmfpiheaaClean
import Derived.Test.YtnijcglmfpiheaaRefRune
import Derived.Lib.AppendStr
import Derived.Laws.BytesArg
namespace Go.Proofs.Ytnijcglmfpiheaa
open Go.RowKit Go.Lib

theorem runeV_dec (s : ByteArray) (p : Nat) (hp : p < s.size) : runeV s p = .tuple #[.int .i64 (Utf8.decode s p).1, .int .i64 (Utf8.decode s p).2] := runeV_at s p hp _ _ rfl

/-- What goes behind the text at an offset. -/
theorem clean_bad (s : ByteArray) (p : Nat) (h : (Utf8.decode s p).1 = 0 ∨ (Utf8.decode s p).1 = 65533) : encodeRune (cleanF (Utf8.decode s p).1) = [239, 191, 189] := by
  rcases h with h | h
  · rw [h]; decide
  · rw [h]; decide
theorem clean_good (s : ByteArray) (p : Nat) (hp : p < s.size) (h0 : ¬ (Utf8.decode s p).1 = 0) (h1 : ¬ ((Utf8.decode s p).1 = 65533 ∧ (Utf8.decode s p).2 = 1)) : encodeRune (cleanF (Utf8.decode s p).1) = (s.extract p (p + (Utf8.decode s p).2)).data.toList := by
  rw [extract_data]
  have e : cleanF (Utf8.decode s p).1 = (Utf8.decode s p).1 := by unfold cleanF; rw [if_neg (by omega)]
  rw [e]
  have := encode_decode (s.data.toList.drop p) (drop_ne s p hp)
  rw [← decode_drop] at this
  rw [this h1]
  congr 1
  omega

theorem decode_end (s : ByteArray) (p : Nat) (hp : p < s.size) : p + (Utf8.decode s p).2 ≤ s.size := by
  have := decodeL_le (s.data.toList.drop p) (drop_ne s p hp)
  rw [← decode_drop] at this
  have e2 : s.data.size = s.size := rfl
  simp at this
  omega

theorem owns_form {w : World} {base n size : Nat} {e : TypeId} {v : Value} {xs : List Value} (h : w.ownsRow base e size v n xs) (hn : 0 < n) : ∃ g cap, v = .slice (some ⟨g, 0, none⟩) n cap := by
  rcases h.2 with ⟨_, h0⟩ | ⟨g, cap, cur, hv, _⟩
  · omega
  · exact ⟨g, cap, hv⟩

theorem strOfNums_bytes (l : List UInt8) : strOfNums (l.map fun b => (b.toNat : Int)) = ⟨l.toArray⟩ := by
  have h : ((l.map fun b => (b.toNat : Int)).map fun n => UInt8.ofNat n.toNat) = l := by
    rw [List.map_map]
    conv => rhs; rw [← List.map_id l]
    refine List.map_congr_left fun b _ => ?_
    simp
  show (⟨((l.map fun b => (b.toNat : Int)).map fun n => UInt8.ofNat n.toNat).toArray⟩ : ByteArray) = _
  rw [h]

theorem cells_three (w : World) (T : TypeId) : ∀ j u, ([.int .u8 239, .int .u8 191, .int .u8 189] : List Value)[j]? = some u → (w.alloc (.cells #[.int .u8 239, .int .u8 191, .int .u8 189] T)).cell? ((⟨w.heap.size, 0, none⟩ : Addr).add j) = some u := by
  intro j u hu
  rw [Addr.add_lit, Nat.zero_add, World.cell?_alloc_new]
  simpa using hu

set_option maxHeartbeats 4000000 in
set_option maxRecDepth 1000000 in
theorem ref_clean_any (s : ByteArray) (w : World) (hs : s.size ≤ 1000000000) :
    Calls Try.prog 20 #[.string s] w fun e w' => e = .returned (.string ⟨(cleanL s.data.toList).toArray⟩) ∧ Below w.heap.size w w' := by
  obtain ⟨i0, hi, hz0, hz1, hz2⟩ := info_parts infoByte
  go_enter Try.func20, Try.ntmps20
  go_wp2_with fail
  go_loopw [3, 4, 5, 6] (fun out at_ _ _ wr => ∃ (pos : Nat) (acc : List UInt8) (g cap : Nat), pos ≤ s.size ∧ out = .slice (some ⟨g, 0, none⟩) acc.length cap ∧ at_ = .int .i64 pos ∧ wr.ownsRow w.heap.size 5 1 (.slice (some ⟨g, 0, none⟩) acc.length cap) acc.length (byteCells acc) ∧ Below w.heap.size w wr ∧ acc ++ cleanL (s.data.toList.drop pos) = cleanL s.data.toList ∧ acc.length ≤ 3 * pos) (fun _ at_ _ _ _ => s.size - (RowKit.intOf at_).toNat)
  case atStart =>
    exact ⟨0, [], w.heap.size, 0, Nat.zero_le _, rfl, rfl, ⟨rfl, .inr ⟨w.heap.size, 0, #[], rfl, Nat.le_refl _, heap_alloc_new w _, Nat.le_refl _, by decide, rfl, rfl⟩⟩, (Below.refl _ _).alloc (Nat.le_refl _) _, rfl, by simp⟩
  case round =>
    obtain ⟨pos, acc, g, cap, hpos, rfl, rfl, hown, hbw, hacc, hal⟩ := hrel
    have HA := Lib.hid hacc
    clear hacc
    by_cases hp : pos < s.size
    · have HV := Lib.hid (runeV_dec s pos hp)
      have hwd := width_at s pos
      have hde := decode_end s pos hp
      have hd1 := decode_le s pos
      have HC := Lib.hid (cleanL_at s pos hp)
      have HB := Lib.hid (clean_bad s pos)
      have HG := Lib.hid (clean_good s pos hp)
      generalize hr : (Utf8.decode s pos).1 = r at *
      generalize hn : (Utf8.decode s pos).2 = n at *
      clear hr hn
      go_wp2_with (go_at_call 34; refine (ref_rune_any s (by unfold maxLen; omega) _ _).mono ?_)
      rintro e w1 ⟨rfl, b1⟩
      rw [HV.out]
      have hown1 := hown.kept (w' := w1) (row := none) ⟨b1.os, b1.tape, b1.output, b1.size, fun i hi _ => b1.block i hi⟩ (by simp [Value.ownBlock])
      have hb1 := hbw.trans (b1.mono hbw.size)
      have hs1 := hb1.size
      by_cases hbad : r = 0 ∨ (r = 65533 ∧ n = 1)
      · have HE := Lib.hid (HB.out (by omega))
        clear HB HG
        rcases hbad with h0 | ⟨h0, h1⟩
        all_goals
          subst h0
          try subst h1
          go_wp2_with (at_builtin; (refine wpList_append_own _ rfl _ _ 52 rfl w.heap.size 5 i0 (.int .u8 0) 1 1 Try.underlying52 hi hz0 hz1 hz2 rfl (by decide) _ _ _ rfl (hown1.alloc _) ⟨w1.heap.size, 0, none⟩ 3 3 [.int .u8 239, .int .u8 191, .int .u8 189] rfl rfl (cells_three _ _) (by decide) (by unfold maxLen; omega) (by omega) (by simp; omega) ?_); intro v' w2 hown' hgrow _; obtain ⟨g', cap', hv⟩ := owns_form hown' (by omega); subst hv)
          go_roundw
          case rel =>
            refine ⟨pos + _, acc ++ [239, 191, 189], g', cap', by omega, by simp, by go_num, ?_, (hb1.alloc hs1 _).grown hgrow (by simp; omega) ?_, ?_, by simp; omega⟩
            · simpa [byteCells] using hown'
            · intro k hk
              have := (hown1.alloc (.cells #[.int .u8 239, .int .u8 191, .int .u8 189] 5)).lt k hk
              omega
            · rw [← HA.out, HC.out, HE.out]; simp
          case measure => simp [RowKit.intOf]; omega
      · have HE := Lib.hid (HG.out (by omega) (by omega))
        clear HB HG
        have hx : (s.extract pos (pos + n)).size = n := by
          rw [ByteArray.size_extract]; omega
        have HX := Lib.hid hx
        clear hx
        have h0 : ¬ r = 0 := by omega
        by_cases h1 : r = 65533
        all_goals
          try have h2 : ¬ n = 1 := by omega
          go_wp2_with (at_builtin; (refine wpList_append_own_string _ rfl _ _ 52 9 rfl w.heap.size 5 i0 Try.underlying52 Try.underlying9 hi hz0 hz1 hz2 _ _ _ rfl hown1 (s.extract pos (pos + n)) rfl (by rw [HX.out]; unfold maxLen; omega) (by rw [HX.out]; omega) (by omega) ?_); intro v' w2 hown' hgrow _; rw [HX.out] at hown'; obtain ⟨g', cap', hv⟩ := owns_form hown' (by omega); subst hv)
          go_roundw
          case rel =>
            have hlen : (acc ++ (s.extract pos (pos + n)).data.toList).length = acc.length + n := by
              have e2 : (s.extract pos (pos + n)).data.toList.length = (s.extract pos (pos + n)).size := Array.length_toList
              rw [List.length_append, e2, HX.out]
            refine ⟨pos + n, acc ++ (s.extract pos (pos + n)).data.toList, g', cap', by omega, by rw [hlen], by go_num, ?_, hb1.grown hgrow hs1 ?_, ?_, by rw [hlen]; omega⟩
            · rw [hlen, byteCells_append]
              exact hown'
            · intro k hk
              have := hown1.lt k hk
              omega
            · rw [← HA.out, HC.out, HE.out]; simp
          case measure => simp [RowKit.intOf]; omega
    · have hcv := run_convert_bytes_arg (P := Try.prog) wr 52 5 Try.underlying52 Try.underlying5 g 0 acc.length cap (acc.map fun b => (b.toNat : Int)) (by simp) (by
        intro i hi
        have := hown.cellAt i (by omega)
        rw [Nat.zero_add, this]
        simp [byteCells, List.getD, List.getElem?_eq_getElem hi]) 9 Try.underlying9
      go_wp2
      go_ret
      have hacc := HA.out
      rw [List.drop_of_length_le (by have e2 : s.data.size = s.size := rfl; simp; omega), show cleanL [] = [] from rfl, List.append_nil] at hacc
      subst hacc
      refine ⟨?_, hbw⟩
      rw [← strOfNums_bytes]; rfl
end Go.Proofs.Ytnijcglmfpiheaa
