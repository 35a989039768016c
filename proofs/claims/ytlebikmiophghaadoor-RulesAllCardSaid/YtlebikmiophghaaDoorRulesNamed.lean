/-
  rules.Named: the numbers of the rules that a word means. Conditions: the two tables of unicode/utf8.
-/
import Derived.Test.YtlebikmiophghaaDoorRulesFind
import Derived.Laws.AppendOwn
namespace Go.Proofs.YtlebikmiophghaaDoor
open Go.RowKit Go.Lib

theorem infoInt : (Tryd.prog.info? 3).map (fun i => (i.zero, i.size, i.bytes)) = some (some (.int .i64 0), 1, 8) := by kernel_rfl
theorem natCells_append (a b : List Nat) : natCells (a ++ b) = natCells a ++ natCells b := by simp [natCells]
theorem tagHits_bound (w : List UInt8) : ∀ (l : List RuleP) (i : Nat), (∀ n ∈ tagHits w i l, n < i + l.length) ∧ (tagHits w i l).length ≤ l.length
  | [], i => by simp [tagHits]
  | r :: rs, i => by
    obtain ⟨h1, h2⟩ := tagHits_bound w rs (i + 1)
    simp only [tagHits, List.length_cons]
    split
    · refine ⟨fun n hn => ?_, by simp only [List.length_cons]; omega⟩
      rcases List.mem_cons.1 hn with rfl | hn
      · omega
      · have := h1 n hn; omega
    · exact ⟨fun n hn => by have := h1 n hn; omega, by omega⟩
theorem namedP_bound (w : List UInt8) : (∀ n ∈ namedP w, n ≤ 1000000) ∧ (namedP w).length ≤ 1000000 := by
  have hf := findP_range w
  obtain ⟨h1, h2⟩ := tagHits_bound w rulesT 0
  have hl := rulesT_len
  unfold namedP
  split
  · refine ⟨fun n hn => ?_, by simp⟩
    simp only [List.mem_cons, List.mem_nil_iff, or_false] at hn
    omega
  · exact ⟨fun n hn => by have := h1 n hn; omega, by omega⟩

set_option maxHeartbeats 8000000 in
set_option maxRecDepth 100000 in
theorem named_any (wd : ByteArray) (hwd : wd.size ≤ 1000000) (w : World) (hT : Tabs w) : Calls Tryd.prog 26 #[.string wd] w fun e w' => (∃ v, e = .returned v ∧ IntsAt w' v (namedP wd.data.toList)) ∧ Below w.heap.size w w' := by
  obtain ⟨i0, hi, hz0, hz1, hz2⟩ := info_parts infoInt
  have hN : Below w.heap.size w (w.alloc (.cells #[.string wd] 9)) := (Below.refl _ w).alloc (Nat.le_refl _) _
  have hn := heap_alloc_new w (.cells #[.string wd] 9)
  have zN : (w.alloc (.cells #[.string wd] 9)).heap.size = w.heap.size + 1 := by simp
  have hTn := hT.below hN
  have hl := rulesT_len
  have hfr := findP_range wd.data.toList
  by_cases h0 : 0 ≤ findP wd.data.toList
  · have HP := Lib.hid (show namedP wd.data.toList = [(findP wd.data.toList).toNat] by unfold namedP; rw [if_pos h0])
    have kf := fun w hT => find_any wd hwd w hT
    generalize findP wd.data.toList = r at *
    go_enter Tryd.func26, Tryd.ntmps26
    go_wp2_with fail
    refine (kf _ hTn).mono ?_
    rintro e w1 ⟨rfl, b1⟩
    have z1 := b1.size
    go_wp2_with fail
    go_ret
    refine ⟨⟨_, rfl, ?_⟩, (hN.trans (b1.mono (by omega))).alloc (by omega) _⟩
    rw [HP.out]
    have := IntsAt.one (w := w1) (n := r.toNat)
    rw [show ((r.toNat : Nat) : Int) = r by omega] at this
    exact this
  · have HP := Lib.hid (show namedP wd.data.toList = tagHits wd.data.toList 0 rulesT by unfold namedP; rw [if_neg h0])
    have kf := fun w hT => find_any wd hwd w hT
    generalize findP wd.data.toList = r at *
    go_enter Tryd.func26, Tryd.ntmps26
    go_wp2_with fail
    refine (kf _ hTn).mono ?_
    rintro e w1 ⟨rfl, b1⟩
    have z1 := b1.size
    have hT1 := hTn.below b1
    have k1 := (b1.block w.heap.size (by omega)).trans hn
    have hb1 : Below w.heap.size w w1 := hN.trans (b1.mono (by omega))
    go_wp2_with fail
    refine (rules_all_any _).mono ?_
    rintro e w2 ⟨⟨g, rfl, hR⟩, b2⟩
    have z2 := b2.size
    have hT2 := hT1.below b2
    have k2 := (b2.block w.heap.size (by omega)).trans k1
    have hb2 : Below w.heap.size w w2 := hb1.trans (b2.mono (by omega))
    have HR := Lib.hid hR
    have HD := Lib.hid (tagHits_drop wd.data.toList)
    clear hR k1
    go_wp2_with fail
    go_loopw [4, 5, 6, 15] (fun ov _ _ iv wr => ∃ (k : Nat) (acc : List Nat), k ≤ 40 ∧ iv = .int .i64 k ∧ wr.ownsRow w2.heap.size 3 1 ov acc.length (natCells acc) ∧ Below w2.heap.size w2 wr ∧ acc.length ≤ k ∧ RowKit.Hid (acc ++ tagHits wd.data.toList k (rulesT.drop k) = tagHits wd.data.toList 0 rulesT)) (fun _ _ _ iv _ => 40 - (RowKit.intOf iv).toNat)
    case atStart => exact ⟨0, [], Nat.zero_le _, rfl, ⟨rfl, .inl ⟨rfl, rfl⟩⟩, Below.refl _ _, Nat.zero_le _, Lib.hid rfl⟩
    case round =>
      obtain ⟨k, acc, hk, rfl, hown, hbw, hal, HI⟩ := hrel
      have zr := hbw.size
      by_cases hlt : k < 40
      · have hkl : k < rulesT.length := by omega
        obtain ⟨_, _, f3, _, f5, _, _, _, _⟩ := rule_facts _ (List.getElem_mem hkl)
        have hRk := HR.out.below hbw
        have c0 := hRk.id k hkl
        have c1 := hRk.name k hkl
        have c2 := hRk.tags k hkl
        have c3 := hRk.cls k hkl
        have c4 := hRk.row k hkl
        have hlt' := hRk.lt
        have HDk := Lib.hid (HD.out k hkl)
        have hNr : Below wr.heap.size wr (wr.alloc (.cells #[strV rulesT[k].id, strV rulesT[k].name, .slice (some ⟨w1.heap.size + k, 0, none⟩) rulesT[k].tags.length rulesT[k].tags.length, .int .i64 rulesT[k].cls] 57)) := (Below.refl _ wr).alloc (Nat.le_refl _) _
        have zNr : (wr.alloc (.cells #[strV rulesT[k].id, strV rulesT[k].name, .slice (some ⟨w1.heap.size + k, 0, none⟩) rulesT[k].tags.length rulesT[k].tags.length, .int .i64 rulesT[k].cls] 57)).heap.size = wr.heap.size + 1 := by simp
        have hTr := (hT2.below hbw).below hNr
        have c4' := (hNr.block (w1.heap.size + k) (by omega)).trans c4
        have cB := (hNr.block w.heap.size (by omega)).trans ((hbw.block w.heap.size (by omega)).trans k2)
        have hownN := ownsRow_below hown hNr
        have kc := contains_tags rulesT[k].tags (fun t ht => ⟨(f3 t ht).1, (f3 t ht).2.2⟩) f5 wd hwd (w1.heap.size + k) w.heap.size _ hTr c4' (by simp [World.cell?, cB]) (by omega)
        have hbN : Below w2.heap.size w2 _ := hbw.trans (hNr.mono zr)
        have HTB := Lib.hid (show tagB wd.data.toList rulesT[k] = (rulesT[k].tags.any fun t => sameW t wd.data.toList) from rfl)
        clear hRk c4 f3
        unfold strV at *
        generalize hbo : (rulesT[k].tags.any fun t => sameW t wd.data.toList) = bo at *
        generalize rulesT[k].id = a1 at *
        generalize rulesT[k].name = a2 at *
        generalize rulesT[k].tags.length = tl at *
        generalize rulesT[k].cls = cl at *
        clear hbo
        go_wp2_with fail
        refine kc.mono ?_
        rintro e w3 ⟨rfl, b3⟩
        have z3 := b3.size
        have hown3 := ownsRow_below hownN b3
        have hb3 : Below w2.heap.size w2 w3 := hbN.trans (b3.mono (by omega))
        cases bo
        · go_wp2_with fail
          go_roundw
          case rel =>
            refine ⟨k + 1, acc, by omega, by go_num, hown3, hb3, by omega, Lib.hid ?_⟩
            rw [← HI.out, HDk.out, HTB.out]; rfl
          case measure => simp [RowKit.intOf]; omega
        · go_wp2_with (at_builtin; (refine wpList_append_own _ rfl _ _ 29 rfl w2.heap.size 3 i0 (.int .i64 0) 1 8 Tryd.underlying29 hi hz0 hz1 hz2 rfl (by decide) _ _ _ rfl (hown3.alloc _) ⟨w3.heap.size, 0, none⟩ 1 1 [.int .i64 (k : Int)] rfl rfl (new_one _ _ _) (by simp [Value.oneCell']) (by unfold maxLen; omega) (by omega) (by simp; omega) ?_); intro v' w4 hown' hgrow _)
          go_roundw
          case rel =>
            refine ⟨k + 1, acc ++ [k], by omega, by go_num, ?_, (hb3.alloc (by omega) _).grown hgrow (by simp; omega) (fun kk hk => (ownsRow_lt (hown3.alloc (.cells #[.int .i64 (k : Int)] 3)) hk).1), by simp; omega, Lib.hid ?_⟩
            · rw [natCells_append, List.length_append]
              exact hown'
            · rw [← HI.out, HDk.out, HTB.out]; simp
          case measure => simp [RowKit.intOf]; omega
      · obtain rfl : k = 40 := by omega
        have hacc := HI.out
        rw [List.drop_of_length_le (by omega)] at hacc
        simp only [tagHits, List.append_nil] at hacc
        have hx := IntsAt.of_owns hown
        rw [hacc, ← HP.out] at hx
        go_wp2_with fail
        go_ret
        exact ⟨⟨_, rfl, hx⟩, hb2.trans (hbw.mono (by omega))⟩
end Go.Proofs.YtlebikmiophghaaDoor
