/-
  stetref18.Named: it answers what rules.Named does. Conditions: at most 1000000 bytes.
-/
import Derived.Test.YtlebikmiophghaaDoorRefFind
import Derived.Deep.RegionWith
namespace Go.Proofs.YtlebikmiophghaaDoor
open Go.RowKit Go.Lib

theorem any_take (p : List UInt8 → Bool) (l : List (List UInt8)) (k : Nat) (h : k < l.length) : (l.take (k + 1)).any p = ((l.take k).any p || p l[k]) := by
  rw [List.take_succ_eq_append_getElem h, List.any_append]; simp

set_option maxHeartbeats 8000000 in
set_option maxRecDepth 100000 in
theorem ref_named_any (wd : ByteArray) (hwd : wd.size ≤ 1000000) (w : World) : Calls Tryd.prog 27 #[.string wd] w fun e w' => (∃ v, e = .returned v ∧ IntsAt w' v (namedP wd.data.toList)) ∧ Below w.heap.size w w' := by
  obtain ⟨i0, hi, hz0, hz1, hz2⟩ := info_parts infoInt
  have hl := rulesT_len
  have hfr := findP_range wd.data.toList
  have kf := fun w => ref_find_any wd hwd w
  by_cases h0 : 0 ≤ findP wd.data.toList
  · have HP := Lib.hid (show namedP wd.data.toList = [(findP wd.data.toList).toNat] by unfold namedP; rw [if_pos h0])
    generalize findP wd.data.toList = r at *
    go_enter Tryd.func27, Tryd.ntmps27
    go_wp2_with fail
    refine (kf _).mono ?_
    rintro e w1 ⟨rfl, b1⟩
    have z1 := b1.size
    go_wp2_with fail
    go_ret
    refine ⟨⟨_, rfl, ?_⟩, b1.alloc (by omega) _⟩
    rw [HP.out]
    have := IntsAt.one (w := w1) (n := r.toNat)
    rw [show ((r.toNat : Nat) : Int) = r by omega] at this
    exact this
  · have HP := Lib.hid (show namedP wd.data.toList = tagHits wd.data.toList 0 rulesT by unfold namedP; rw [if_neg h0])
    generalize findP wd.data.toList = r at *
    go_enter Tryd.func27, Tryd.ntmps27
    go_wp2_with fail
    refine (kf _).mono ?_
    rintro e w1 ⟨rfl, b1⟩
    have z1 := b1.size
    go_wp2_with fail
    refine (ref_all_in _).mono ?_
    rintro e w2 ⟨⟨g, cap, ts, rfl, hR⟩, b2⟩
    have z2 := b2.size
    have hb2 : Below w.heap.size w w2 := b1.trans (b2.mono z1)
    have HR := Lib.hid hR
    have HD := Lib.hid (tagHits_drop wd.data.toList)
    have htsl := hR.len
    have hgl := hR.lg
    clear hR
    go_wp2_with fail
    go_loopw [5, 6, 7, 8] (fun ov iv _ _ wr => ∃ (k : Nat) (acc : List Nat), k ≤ 40 ∧ iv = .int .i64 k ∧ wr.ownsRow w2.heap.size 3 1 ov acc.length (natCells acc) ∧ Below w2.heap.size w2 wr ∧ acc.length ≤ k ∧ RowKit.Hid (acc ++ tagHits wd.data.toList k (rulesT.drop k) = tagHits wd.data.toList 0 rulesT)) (fun _ iv _ _ _ => 40 - (RowKit.intOf iv).toNat)
    case atStart => exact ⟨0, [], Nat.zero_le _, rfl, ⟨rfl, .inr ⟨w2.heap.size, 0, #[], rfl, Nat.le_refl _, heap_alloc_new w2 _, Nat.le_refl _, by decide, rfl, rfl⟩⟩, (Below.refl _ w2).alloc (Nat.le_refl _) _, Nat.le_refl _, Lib.hid rfl⟩
    case round =>
      obtain ⟨k, acc, hk, rfl, hown, hbw, hal, HI⟩ := hrel
      have zr := hbw.size
      by_cases hlt : k < 40
      · have hkl : k < rulesT.length := by omega
        have hkt : k < ts.length := by omega
        obtain ⟨_, _, f3, f4, f5, _, _, _, _⟩ := rule_facts _ (List.getElem_mem hkl)
        have HDk := Lib.hid (HD.out k hkl)
        have HTB := Lib.hid (show tagB wd.data.toList rulesT[k] = (rulesT[k].tags.any fun t => t == wd.data.toList.map lowB) by
          unfold tagB
          rw [Bool.eq_iff_iff, List.any_eq_true, List.any_eq_true]
          constructor
          · rintro ⟨t, ht, h⟩
            refine ⟨t, ht, ?_⟩
            unfold sameW at h
            rw [(f3 t ht).2.1] at h; exact h
          · rintro ⟨t, ht, h⟩
            refine ⟨t, ht, ?_⟩
            unfold sameW
            rw [(f3 t ht).2.1]; exact h)
        have HCl := Lib.hid (show ∀ wx, Below w2.heap.size w2 wx → wx.cell? ⟨g, k * 4 + 2, none⟩ = some (.slice (some ⟨ts[k].1, 2, none⟩) rulesT[k].tags.length ts[k].2) ∧ ∀ j (h : j < rulesT[k].tags.length), wx.cell? ⟨ts[k].1, 2 + j, none⟩ = some (.string ⟨(rulesT[k].tags[j]).toArray⟩) from fun wx hx => by
          have hRx := HR.out.below hx
          refine ⟨hRx.tags k hkl hkt, fun j hj => ?_⟩
          obtain ⟨cs, h1, _, h3⟩ := hRx.tg k hkl hkt
          have := h3 j hj
          simp only [World.cell?, h1]
          exact this)
        have kw := fun w => ref_low_any wd hwd w
        have hzl : (wd.data.toList.map lowB).length = wd.size := by rw [List.length_map, ba_len]
        clear f3
        generalize ts[k].1 = tb at *
        generalize ts[k].2 = tc at *
        generalize hlwe : wd.data.toList.map lowB = lw at *
        clear hlwe
        generalize rulesT[k] = rr at *
        generalize hTT : rr.tags = tags at *
        clear hTT
        go_wp2_with fail
        have hown0 := hown
        go_loopw [7, 8] (fun hv jv wx => ∃ j : Nat, j ≤ tags.length ∧ jv = .int .i64 j ∧ hv = .bool ((tags.take j).any fun t => t == lw) ∧ Below w2.heap.size w2 wx ∧ Below wr.heap.size wr wx) (fun _ jv _ => tags.length - (RowKit.intOf jv).toNat)
        case atStart => exact ⟨0, Nat.zero_le _, rfl, rfl, hbw, Below.refl _ _⟩
        case round =>
          obtain ⟨j, hj, rfl, rfl, hbx, hbx0⟩ := hrel
          obtain ⟨d0, d1⟩ := HCl.out _ hbx
          by_cases hjl : j < tags.length
          · have d1j := d1 j hjl
            have HAT := Lib.hid (any_take (fun t => t == lw) tags j hjl)
            have i1 : (j : Int) < (tags.length : Int) := by omega
            clear d1
            cases hb : ((tags.take j).any fun t => t == lw)
            · have hzx := hbx.size
              generalize hte : tags[j] = tj at *
              go_wp2_with fail
              go_region_with (go_at_call 48; refine (kw _).mono ?_; rintro e w4 ⟨rfl, b4⟩; have hbx4 : Below wr.heap.size wr w4 := ((Below.refl _ wr).drew).trans b4; have hb4 := hbx.trans (hbx4.mono hzx); obtain ⟨e0, e1⟩ := HCl.out w4 hb4; have e1j := e1 j hjl; rw [hte] at e1j; clear e1)
              all_goals
                go_wp2_with fail
                go_roundw
                case rel => (rw [show decide ((k : Int) < 40) = true from decide_eq_true (by omega)]); (repeat apply Exists.intro); refine ⟨?_, rfl⟩; exact ⟨j + 1, by omega, by go_num, by rw [HAT.out, hb]; simp, hb4, hbx0.trans (hbx4.mono hbx0.size)⟩
                case measure => simp [RowKit.intOf]; omega
            · go_wp2_with fail
              go_quiet (fail)
              have hbx := below_drewN (n := nq) hbx
              have hbx0 := below_drewN (n := nq) hbx0
              go_wp2
              go_roundw
              case rel => exact ⟨j + 1, by omega, by go_num, by rw [HAT.out, hb]; rfl, hbx, hbx0⟩
              case measure => simp [RowKit.intOf]; omega
          · obtain rfl : j = tags.length := by omega
            have hown2 := ownsRow_below hown0 hbx0
            have zx0 := hbx0.size
            rw [List.take_length] at *
            clear d1
            cases hb : (tags.any fun t => t == lw)
            · go_wp2_with fail
              go_roundw
              case rel =>
                refine ⟨k + 1, acc, by omega, by go_num, hown2, hbx, by omega, Lib.hid ?_⟩
                rw [← HI.out, HDk.out, HTB.out, hb]; rfl
              case measure => simp [RowKit.intOf]; omega
            · have hownA := hown2
              go_wp2_with (at_builtin; (refine wpList_append_own _ rfl _ _ 29 rfl w2.heap.size 3 i0 (.int .i64 0) 1 8 Tryd.underlying29 hi hz0 hz1 hz2 rfl (by decide) _ _ _ rfl (hownA.alloc _) ⟨wr.heap.size, 0, none⟩ 1 1 [.int .i64 (k : Int)] rfl rfl (new_one _ _ _) (by simp [Value.oneCell']) (by unfold maxLen; omega) (by omega) (by simp; omega) ?_); intro v' w4 hown' hgrow _)
              go_roundw
              case rel =>
                refine ⟨k + 1, acc ++ [k], by omega, by go_num, ?_, (hbx.alloc (by omega) _).grown hgrow (by simp; omega) (fun kk hk => (ownsRow_lt (hownA.alloc (.cells #[.int .i64 (k : Int)] 3)) hk).1), by simp; omega, Lib.hid ?_⟩
                · rw [natCells_append, List.length_append]
                  exact hown'
                · rw [← HI.out, HDk.out, HTB.out, hb]; simp
              case measure => simp [RowKit.intOf]; omega
      · obtain rfl : k = 40 := by omega
        have hacc := HI.out
        rw [List.drop_of_length_le (by omega)] at hacc
        simp only [tagHits, List.append_nil] at hacc
        have hx := IntsAt.of_owns hown
        rw [hacc, ← HP.out] at hx
        go_wp2_with fail
        go_ret
        exact ⟨⟨_, rfl, hx⟩, hb2.trans (hbw.mono (by omega))⟩
end Go.Proofs.YtlebikmiophghaaDoor
