/-
  stetref18.low, Find: they answer what rules.Find does. Conditions: at most 1000000 bytes.
-/
import Derived.Test.YtlebikmiophghaaDoorRefRules
namespace Go.Proofs.YtlebikmiophghaaDoor
open Go.RowKit Go.Lib

theorem take_low (s : ByteArray) (k : Nat) (hk : k < s.size) : (s.data.toList.take (k + 1)).map lowB = (s.data.toList.take k).map lowB ++ [lowB s[k]] := by
  have h2 : k < s.data.toList.length := by simpa using hk
  rw [List.take_succ_eq_append_getElem h2, List.map_append]; rfl

set_option maxHeartbeats 4000000 in
set_option maxRecDepth 100000 in
theorem ref_low_any (s : ByteArray) (hs : s.size ≤ 1000000) (w : World) : Calls Tryd.prog 48 #[.string s] w fun e w' => e = .returned (.string ⟨(s.data.toList.map lowB).toArray⟩) ∧ Below w.heap.size w w' := by
  obtain ⟨i0, hi, hz0, hz1, hz2⟩ := info_parts infoByteD
  have hsl := ba_len s
  go_enter Tryd.func48, Tryd.ntmps48
  go_wp2_with fail
  go_loopw [3, 4, 5] (fun uv iv _ wr => ∃ (k g cap : Nat), k ≤ s.size ∧ uv = .slice (some ⟨g, 0, none⟩) k cap ∧ iv = .int .i64 k ∧ wr.ownsRow w.heap.size 5 1 (.slice (some ⟨g, 0, none⟩) k cap) k (byteCells ((s.data.toList.take k).map lowB)) ∧ Below w.heap.size w wr) (fun _ iv _ _ => s.size - (RowKit.intOf iv).toNat)
  case atStart =>
    exact ⟨0, w.heap.size, 0, Nat.zero_le _, rfl, rfl, ⟨rfl, .inr ⟨w.heap.size, 0, #[], rfl, Nat.le_refl _, heap_alloc_new w _, Nat.le_refl _, by decide, rfl, rfl⟩⟩, (Below.refl _ w).alloc (Nat.le_refl _) _⟩
  case round =>
    obtain ⟨k, g, cap, hk, rfl, rfl, hown, hbw⟩ := hrel
    have hws := hbw.size
    by_cases hks : k < s.size
    · have HT := Lib.hid (take_low s k hks)
      have hb := (s[k]).toNat_lt
      have hvl := lowB_nat s[k]
      by_cases hup : 65 ≤ (s[k]).toNat ∧ (s[k]).toNat ≤ 90
      · rw [if_pos hup] at hvl
        have HV := Lib.hid hvl
        obtain ⟨u1, u2⟩ := hup
        clear hvl
        go_wp2_with (at_builtin; (refine wpList_append_own _ rfl _ _ 60 rfl w.heap.size 5 i0 (.int .u8 0) 1 1 Tryd.underlying60 hi hz0 hz1 hz2 rfl (by decide) _ _ _ rfl (hown.alloc _) ⟨wr.heap.size, 0, none⟩ 1 1 [.int .u8 ((s[k].toNat : Int) + 32)] rfl rfl (new_one _ _ _) (by simp [Value.oneCell']) (by unfold maxLen; omega) (by omega) (by simp; omega) ?_); intro v' w2 hown' hgrow _; obtain ⟨g', cap', hv⟩ := owns_form hown' (by omega); subst hv)
        have hbx : Below w.heap.size w w2 := (hbw.alloc (by omega) _).grown hgrow (by simp; omega) (fun kk hk => (ownsRow_lt (hown.alloc (.cells #[.int .u8 ((s[k].toNat : Int) + 32)] 5)) hk).1)
        go_roundw
        case rel =>
          refine ⟨k + 1, g', cap', by omega, rfl, by go_num, ?_, hbx⟩
          rw [HT.out, byteCells_append]
          simpa [byteCells, HV.out] using hown'
        case measure => simp [RowKit.intOf]; omega
      · rw [if_neg hup] at hvl
        have HV := Lib.hid hvl
        have hcs : (s[k]).toNat < 65 ∨ (¬ (s[k]).toNat < 65 ∧ 90 < (s[k]).toNat) := by omega
        clear hvl hup
        rcases hcs with u1 | ⟨u1, u2⟩
        all_goals
          go_wp2_with (at_builtin; (refine wpList_append_own _ rfl _ _ 60 rfl w.heap.size 5 i0 (.int .u8 0) 1 1 Tryd.underlying60 hi hz0 hz1 hz2 rfl (by decide) _ _ _ rfl (hown.alloc _) ⟨wr.heap.size, 0, none⟩ 1 1 [.int .u8 (s[k].toNat : Int)] rfl rfl (new_one _ _ _) (by simp [Value.oneCell']) (by unfold maxLen; omega) (by omega) (by simp; omega) ?_); intro v' w2 hown' hgrow _; obtain ⟨g', cap', hv⟩ := owns_form hown' (by omega); subst hv)
          have hbx : Below w.heap.size w w2 := (hbw.alloc (by omega) _).grown hgrow (by simp; omega) (fun kk hk => (ownsRow_lt (hown.alloc (.cells #[.int .u8 (s[k].toNat : Int)] 5)) hk).1)
          go_roundw
          case rel =>
            refine ⟨k + 1, g', cap', by omega, rfl, by go_num, ?_, hbx⟩
            rw [HT.out, byteCells_append]
            simpa [byteCells, HV.out] using hown'
          case measure => simp [RowKit.intOf]; omega
    · obtain rfl : k = s.size := by omega
      have htk : s.data.toList.take s.size = s.data.toList := List.take_of_length_le (by omega)
      rw [htk] at hown
      have hul : (s.data.toList.map lowB).length = s.size := by rw [List.length_map, hsl]
      generalize hupe : s.data.toList.map lowB = up at *
      have hcv := run_convert_bytes_arg (P := Tryd.prog) wr 60 5 Tryd.underlying60 Tryd.underlying5 g 0 s.size cap (up.map fun b => (b.toNat : Int)) (by simpa using hul) (by
        intro i hi
        have := hown.cellAt i (by omega)
        rw [Nat.zero_add, this]
        simp [byteCells, List.getD, List.getElem?_eq_getElem (show i < up.length by omega)]) 9 Tryd.underlying9
      rw [strOfNums_bytes] at hcv
      go_wp2_with fail
      go_ret
      subst hupe
      exact ⟨rfl, hbw⟩

theorem refRows_get (c : Nat) (hc : c < 4) : ∀ (rs : List RuleP) (ts : List (Nat × Nat)), rs.length = ts.length → ∀ k (h1 : k < rs.length) (h2 : k < ts.length), (refRows rs ts)[k * 4 + c]? = (refCells rs[k] ts[k].1 ts[k].2)[c]?
  | [], _, _, k, h1, _ => by simp at h1
  | _ :: _, [], h, _, _, _ => by simp at h
  | r :: rs, (t, d) :: ts, h, k, h1, h2 => by
    have hl : (refCells r t d).length = 4 := rfl
    cases k with
    | zero =>
      simp only [refRows, Nat.zero_mul, Nat.zero_add, List.getElem_cons_zero]
      rw [List.getElem?_append_left (by omega)]
    | succ k =>
      have e : (k + 1) * 4 + c = (refCells r t d).length + (k * 4 + c) := by rw [hl]; omega
      simp only [refRows, List.getElem_cons_succ]
      rw [e, List.getElem?_append_right (by omega), Nat.add_sub_cancel_left]
      exact refRows_get c hc rs ts (by simpa using h) k (by simpa using h1) (by simpa using h2)

/-- A row holds the document's catalogue. -/
structure RefIn (w : World) (g : Nat) (ts : List (Nat × Nat)) : Prop where
  len : ts.length = 40
  id : ∀ k (h : k < rulesT.length), w.cell? ⟨g, k * 4, none⟩ = some (strV rulesT[k].id)
  name : ∀ k (h : k < rulesT.length), w.cell? ⟨g, k * 4 + 1, none⟩ = some (strV rulesT[k].name)
  tags : ∀ k (h : k < rulesT.length) (h2 : k < ts.length), w.cell? ⟨g, k * 4 + 2, none⟩ = some (.slice (some ⟨ts[k].1, 2, none⟩) rulesT[k].tags.length ts[k].2)
  cls : ∀ k (h : k < rulesT.length), w.cell? ⟨g, k * 4 + 3, none⟩ = some (.int .i64 rulesT[k].cls)
  tg : ∀ k (h : k < rulesT.length) (h2 : k < ts.length), TagsIn w rulesT[k] ts[k]
  lg : g < w.heap.size
theorem RefIn.below {w w' : World} {g : Nat} {ts : List (Nat × Nat)} (h : RefIn w g ts) (hb : Below w.heap.size w w') : RefIn w' g ts := by
  have z := hb.size
  have l1 := h.lg
  refine ⟨h.len, fun k hk => ?_, fun k hk => ?_, fun k hk h2 => ?_, fun k hk => ?_, fun k hk h2 => (h.tg k hk h2).below hb, by omega⟩
  · rw [hb.cell (p := ⟨g, k * 4, none⟩) l1]; exact h.id k hk
  · rw [hb.cell (p := ⟨g, k * 4 + 1, none⟩) l1]; exact h.name k hk
  · rw [hb.cell (p := ⟨g, k * 4 + 2, none⟩) l1]; exact h.tags k hk h2
  · rw [hb.cell (p := ⟨g, k * 4 + 3, none⟩) l1]; exact h.cls k hk

theorem ref_all_in (w : World) : Calls Tryd.prog 29 #[] w fun e w' => (∃ g cap ts, e = .returned (.slice (some ⟨g, 0, none⟩) 40 cap) ∧ RefIn w' g ts) ∧ Below w.heap.size w w' := by
  refine (ref_all_any w).mono ?_
  rintro e w' ⟨⟨v, ts, rfl, hts, hown, htg⟩, hb⟩
  refine ⟨?_, hb⟩
  have hl := rulesT_len
  rcases hown.2 with ⟨_, hn⟩ | ⟨g, cap, cur, hv, _, hh, hc, _, _, ht⟩
  · omega
  · subst hv
    have cell : ∀ k c (hk : k < rulesT.length) (h2 : k < ts.length), c < 4 → w'.cell? ⟨g, k * 4 + c, none⟩ = (refCells rulesT[k] ts[k].1 ts[k].2)[c]? := by
      intro k c hk h2 hc4
      have := refRows_get c hc4 rulesT ts (by omega) k hk h2
      rw [← ht, List.getElem?_take_of_lt (by omega)] at this
      simp only [World.cell?, hh]
      rw [← this]; simp
    exact ⟨g, cap, ts, rfl, hts, fun k hk => cell k 0 hk (by omega) (by omega), fun k hk => cell k 1 hk (by omega) (by omega), fun k hk h2 => cell k 2 hk h2 (by omega), fun k hk => cell k 3 hk (by omega) (by omega), fun k hk h2 => htg k h2 hk, (Array.getElem?_eq_some_iff.1 hh).1⟩

set_option maxHeartbeats 4000000 in
set_option maxRecDepth 100000 in
theorem ref_find_any (wd : ByteArray) (hwd : wd.size ≤ 1000000) (w : World) : Calls Tryd.prog 24 #[.string wd] w fun e w' => e = .returned (.int .i64 (findP wd.data.toList)) ∧ Below w.heap.size w w' := by
  have hl := rulesT_len
  go_enter Tryd.func24, Tryd.ntmps24
  go_wp2_with fail
  refine (ref_all_in _).mono ?_
  rintro e w1 ⟨⟨g, cap, ts, rfl, hR⟩, b1⟩
  have z1 := b1.size
  have HR := Lib.hid hR
  clear hR
  go_wp2_with fail
  go_loopw [4] (fun iv wr => ∃ k : Nat, k ≤ 40 ∧ iv = .int .i64 k ∧ Below w1.heap.size w1 wr ∧ RowKit.Hid (findP wd.data.toList = firstHit wd.data.toList k (rulesT.drop k))) (fun iv _ => 40 - (RowKit.intOf iv).toNat)
  case atStart => exact ⟨0, Nat.zero_le _, rfl, Below.refl _ _, Lib.hid rfl⟩
  case round =>
    obtain ⟨k, hk, rfl, hbw, HI⟩ := hrel
    have zr := hbw.size
    by_cases hlt : k < 40
    · have hkl : k < rulesT.length := by omega
      obtain ⟨_, _, _, _, _, f6, f7, _, _⟩ := rule_facts _ (List.getElem_mem hkl)
      have hRk := HR.out.below hbw
      have c0 := hRk.id k hkl
      have HD := Lib.hid (firstHit_drop wd.data.toList k hkl)
      have HN := Lib.hid (show ∀ wx, Below w1.heap.size w1 wx → wx.cell? ⟨g, k * 4 + 1, none⟩ = some (strV rulesT[k].name) from fun wx hx => (HR.out.below hx).name k hkl)
      have k1 := fun w => ref_low_any ⟨(rulesT[k].id).toArray⟩ (by rw [ba_size]; omega) w
      have k2 := fun w => ref_low_any ⟨(rulesT[k].name).toArray⟩ (by rw [ba_size]; omega) w
      have kw := fun w => ref_low_any wd hwd w
      rw [ba_list] at k1 k2
      have HB := Lib.hid (show hitB wd.data.toList rulesT[k] = (((rulesT[k].id).map lowB == wd.data.toList.map lowB) || ((rulesT[k].name).map lowB == wd.data.toList.map lowB)) from rfl)
      clear hRk
      unfold strV at *
      generalize rulesT[k] = r at *
      generalize (r.id).map lowB = x at *
      generalize (r.name).map lowB = y at *
      generalize wd.data.toList.map lowB = z at *
      go_wp2_with fail
      refine (k1 _).mono ?_
      rintro e w2 ⟨rfl, b2⟩
      have z2 := b2.size
      go_wp2_with fail
      refine (kw _).mono ?_
      rintro e w3 ⟨rfl, b3⟩
      have z3 := b3.size
      have hb3 : Below w1.heap.size w1 w3 := hbw.trans ((b2.mono zr).trans (b3.mono (by omega)))
      have c1 := HN.out w3 hb3
      cases hh : (x == z)
      · go_wp2_with fail
        refine (k2 _).mono ?_
        rintro e w4 ⟨rfl, b4⟩
        have z4 := b4.size
        go_wp2_with fail
        refine (kw _).mono ?_
        rintro e w5 ⟨rfl, b5⟩
        have hb5 : Below w1.heap.size w1 w5 := hb3.trans ((b4.mono (by omega)).trans (b5.mono (by omega)))
        cases hh2 : (y == z)
        · go_wp2_with fail
          go_roundw
          case rel =>
            refine ⟨k + 1, by omega, by go_num, hb5, Lib.hid ?_⟩
            rw [HI.out, HD.out, HB.out, hh, hh2]; rfl
          case measure => simp [RowKit.intOf]; omega
        · go_wp2_with fail
          go_ret
          refine ⟨ret_int ?_, b1.trans (hb5.mono z1)⟩
          rw [HI.out, HD.out, HB.out, hh, hh2]; rfl
      · go_wp2_with fail
        go_ret
        refine ⟨ret_int ?_, b1.trans (hb3.mono z1)⟩
        rw [HI.out, HD.out, HB.out, hh]; rfl
    · obtain rfl : k = 40 := by omega
      go_wp2_with fail
      go_ret
      refine ⟨ret_int ?_, b1.trans (hbw.mono z1)⟩
      rw [HI.out, List.drop_of_length_le (by omega)]; rfl
end Go.Proofs.YtlebikmiophghaaDoor
