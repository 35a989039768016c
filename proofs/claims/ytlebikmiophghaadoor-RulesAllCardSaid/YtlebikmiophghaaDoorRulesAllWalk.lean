/-
  The walk of RulesAll: it returns true whatever the number. Conditions: the two tables of unicode/utf8.
-/
import Derived.Test.YtlebikmiophghaaDoorSameTexts
namespace Go.Proofs.YtlebikmiophghaaDoor
open Go.RowKit Go.Lib

theorem block_four {w : World} {L : Nat} {a b c d : Value} {T : TypeId} (h : w.heap[L]? = some (.cells #[a, b, c, d] T)) :
    w.cell? ⟨L, 0, none⟩ = some a ∧ w.cell? ⟨L, 1, none⟩ = some b ∧ w.cell? ⟨L, 2, none⟩ = some c ∧ w.cell? ⟨L, 3, none⟩ = some d := by
  simp [World.cell?, h]
theorem texts_of_row {w : World} {L g k : Nat} (h : RulesIn w L g) (hk : k < rulesT.length) : TextsAt w (L + k) 0 rulesT[k].tags := by
  have hr := h.row k hk
  refine ⟨(Array.getElem?_eq_some_iff.1 hr).1, fun j hj => ?_⟩
  simp [World.cell?, hr, List.getElem?_eq_getElem hj, strV]
theorem texts_of_tags {w : World} {r : RuleP} {p : Nat × Nat} (h : TagsIn w r p) : TextsAt w p.1 2 r.tags := by
  have hl := h.lt
  obtain ⟨cs, h1, _, h3⟩ := h
  refine ⟨hl, fun j hj => ?_⟩
  simp only [World.cell?, h1]
  exact h3 j hj
/-- The two rows of a rule's tags lie in unlike blocks. -/
theorem rows_apart {w : World} {L g k : Nat} {p : Nat × Nat} (h : RulesIn w L g) (hk : k < rulesT.length) (ht : TagsIn w rulesT[k] p) (hn : 1 ≤ rulesT[k].tags.length) : p.1 ≠ L + k := by
  intro hc
  obtain ⟨cs, h1, _, h3⟩ := ht
  have hr := h.row k hk
  rw [hc, hr] at h1
  injection h1 with h1
  injection h1 with h1
  have := h3 (rulesT[k].tags.length - 1) (by omega)
  rw [← h1] at this
  have := (Array.getElem?_eq_some_iff.1 this).1
  simp at this
  omega

namespace rulesAll
set_option maxHeartbeats 16000000 in
set_option maxRecDepth 100000 in
theorem walk (k0 : Int) (_hk : Lit.wf (.int .i64 k0) = true) (w : World) (hT : Tabs w) :
    Calls Tryd.prog 9 #[.int .i64 k0] w fun e w' => e = .returned (.bool true) ∧ Below w.heap.size w w' := by
  have hl := rulesT_len
  by_cases hout : k0 < 0 ∨ 40 ≤ k0
  · have hcs : k0 < 0 ∨ (¬ k0 < 0 ∧ 40 ≤ k0) := by omega
    clear hout
    rcases hcs with h1 | ⟨h1, h2⟩
    all_goals
      go_enter Tryd.func9, Tryd.ntmps9
      go_wp2_with fail
      refine (rules_alive _ hT).mono ?_
      rintro e w1 ⟨rfl, b1⟩
      have z1 := b1.size
      go_wp2_with fail
      refine (rules_all_any _).mono ?_
      rintro e w2 ⟨⟨g, rfl, hR⟩, b2⟩
      clear hR
      have z2 := b2.size
      go_wp2_with fail
      refine (ref_all_in _).mono ?_
      rintro e w3 ⟨⟨g2, cap2, ts, rfl, hD⟩, b3⟩
      clear hD
      go_wp2_with fail
      go_ret
      exact ⟨rfl, b1.trans ((b2.mono z1).trans (b3.mono (by omega)))⟩
  · obtain ⟨k, rfl⟩ : ∃ k : Nat, k0 = k := ⟨k0.toNat, by omega⟩
    have hk40 : k < 40 := by omega
    have hkl : k < rulesT.length := by omega
    clear hout
    obtain ⟨_, _, f3, f4, f5, f6, f7, f8, f9⟩ := rule_facts _ (List.getElem_mem hkl)
    obtain ⟨r1, r2, r3⟩ := rule_found k hkl
    go_enter Tryd.func9, Tryd.ntmps9
    go_wp2_with fail
    refine (rules_alive _ hT).mono ?_
    rintro e w1 ⟨rfl, b1⟩
    have z1 := b1.size
    have hT1 := hT.below b1
    go_wp2_with fail
    refine (rules_all_any _).mono ?_
    rintro e w2 ⟨⟨g, rfl, hR⟩, b2⟩
    have z2 := b2.size
    have hT2 := hT1.below b2
    go_wp2_with fail
    refine (ref_all_in _).mono ?_
    rintro e w3 ⟨⟨g2, cap2, ts, rfl, hD⟩, b3⟩
    have z3 := b3.size
    have hT3 := hT2.below b3
    have hR3 := hR.below b3
    have hw3 : Below w.heap.size w w3 := b1.trans ((b2.mono z1).trans (b3.mono (by omega)))
    have hkt : k < ts.length := by have := hD.len; omega
    have c0 := hR3.id k hkl
    have c1 := hR3.name k hkl
    have c2 := hR3.tags k hkl
    have c3 := hR3.cls k hkl
    have hap := rows_apart hR3 hkl (hD.tg k hkl hkt) f4
    have t1 := texts_of_row hR3 hkl
    have t2 := texts_of_tags (hD.tg k hkl hkt)
    have hrow := hR3.row k hkl
    have hgl := hR3.lg
    have hll := hR3.lt
    have hwl : w.heap.size ≤ w1.heap.size := z1
    have hg3 := hgl
    have hc2 := c2
    have hNA : Below w3.heap.size w3 (w3.alloc (.cells #[strV rulesT[k].id, strV rulesT[k].name, .slice (some ⟨w1.heap.size + k, 0, none⟩) rulesT[k].tags.length rulesT[k].tags.length, .int .i64 rulesT[k].cls] 57)) := (Below.refl _ w3).alloc (Nat.le_refl _) _
    have hDA := hD.below hNA
    have d0 := hDA.id k hkl
    have d1 := hDA.name k hkl
    have d2 := hDA.tags k hkl hkt
    have d3 := hDA.cls k hkl
    have HRT := Lib.hid (show ∀ (w9 : World) (L9 g9 : Nat), RulesIn w9 L9 g9 → w9.cell? ⟨g9, k * 4 + 2, none⟩ = some (.slice (some ⟨L9 + k, 0, none⟩) rulesT[k].tags.length rulesT[k].tags.length) ∧ TextsAt w9 (L9 + k) 0 rulesT[k].tags from fun w9 L9 g9 h => ⟨h.tags k hkl, texts_of_row h hkl⟩)
    clear hR hR3 hD hDA
    unfold strV at *
    generalize ts[k].1 = tb at *
    generalize ts[k].2 = tc at *
    generalize rulesT[k] = r at *
    generalize hri : r.id = rid at *
    generalize hrn : r.name = rname at *
    generalize hrt : r.tags = tags at *
    generalize hrc : r.cls = cls at *
    have hA0 := heap_alloc_new w3 (.cells #[.string ⟨rid.toArray⟩, .string ⟨rname.toArray⟩, .slice (some ⟨w1.heap.size + k, 0, none⟩) tags.length tags.length, .int .i64 cls] 57)
    have zA0 : (w3.alloc (.cells #[.string ⟨rid.toArray⟩, .string ⟨rname.toArray⟩, .slice (some ⟨w1.heap.size + k, 0, none⟩) tags.length tags.length, .int .i64 cls] 57)).heap.size = w3.heap.size + 1 := by simp
    obtain ⟨wA, hwA⟩ : ∃ x, x = w3.alloc (.cells #[.string ⟨rid.toArray⟩, .string ⟨rname.toArray⟩, .slice (some ⟨w1.heap.size + k, 0, none⟩) tags.length tags.length, .int .i64 cls] 57) := ⟨_, rfl⟩
    have hB0 := heap_alloc_new wA (.cells #[.string ⟨rid.toArray⟩, .string ⟨rname.toArray⟩, .slice (some ⟨tb, 2, none⟩) tags.length tc, .int .i64 cls] 57)
    have hNB : Below wA.heap.size wA (wA.alloc (.cells #[.string ⟨rid.toArray⟩, .string ⟨rname.toArray⟩, .slice (some ⟨tb, 2, none⟩) tags.length tc, .int .i64 cls] 57)) := (Below.refl _ wA).alloc (Nat.le_refl _) _
    have zB0 : (wA.alloc (.cells #[.string ⟨rid.toArray⟩, .string ⟨rname.toArray⟩, .slice (some ⟨tb, 2, none⟩) tags.length tc, .int .i64 cls] 57)).heap.size = wA.heap.size + 1 := by simp
    rw [← hwA] at hA0 hNA zA0 d0 d1 d2 d3
    have hA1 := (hNB.block w3.heap.size (by omega)).trans hA0
    obtain ⟨p0, p1, p2, p3⟩ := block_four hA1
    obtain ⟨q0, q1, q2, q3⟩ := block_four hB0
    rw [zA0] at q0 q1 q2 q3 hB0
    have hN3 : Below w3.heap.size w3 (wA.alloc (.cells #[.string ⟨rid.toArray⟩, .string ⟨rname.toArray⟩, .slice (some ⟨tb, 2, none⟩) tags.length tc, .int .i64 cls] 57)) := hNA.trans (hNB.mono (by omega))
    subst hwA
    have e1 : decide (cls < 0) = false := decide_eq_false (by omega)
    have e2 : decide ((2 : Int) < cls) = false := decide_eq_false (by omega)
    have i40 : (k : Int) < 40 := by omega
    have tl0 : 0 < tags.length := by omega
    have t1B := t1.below hN3
    have t2B := t2.below hN3
    have H1 := Lib.hid r1
    have H2 := Lib.hid r2
    have H3 := Lib.hid r3
    have HT3 := Lib.hid (hT3.below hN3)
    have HW3 := Lib.hid hw3
    clear r1 r2 r3 hT hT1 hT2 hT3 hw3
    go_wp2_with fail
    refine (sameTexts_any tags (by omega) _ 0 _ _ 2 _ _ t1B t2B).mono ?_
    rintro e w4 ⟨rfl, b4⟩
    have zN : w3.heap.size + 2 ≤ w4.heap.size := by have := b4.size; simp at this; omega
    have hA4 := (b4.block w3.heap.size (by simp; omega)).trans hA1
    have hB4 := (b4.block (w3.heap.size + 1) (by simp)).trans hB0
    have hN4 : Below w3.heap.size w3 w4 := hN3.trans (b4.mono (by simp; omega))
    have hT4 := HT3.out.below b4
    clear p0 p1 p2 p3 q0 q1 q2 q3 t1B t2B hA1 hB0 hNA hNB hA0 zA0 zB0 c0 c1 c2 c3 d0 d1 d2 d3 b4 hN3 HT3
    obtain ⟨p0, p1, p2, p3⟩ := block_four hA4
    obtain ⟨q0, q1, q2, q3⟩ := block_four hB4
    have KF : RowKit.Hid (∀ (l : List UInt8) (w : World), l.length < 100 → findP l = (k : Int) → Tabs w → Calls Tryd.prog 23 #[.string ⟨l.toArray⟩] w fun e w' => e = .returned (.int .i64 (k : Int)) ∧ Below w.heap.size w w') := fun l w hl hf hT => by
      have := find_any ⟨l.toArray⟩ (by show l.toArray.size ≤ 1000000; simp; omega) w hT
      simpa [hf] using this
    go_wp2_with fail
    refine (KF.out rid _ f6 H1.out hT4).mono ?_
    rintro e w5 ⟨rfl, b5⟩
    have z5 := b5.size
    have hA5 := (b5.block w3.heap.size (by omega)).trans hA4
    have hB5 := (b5.block (w3.heap.size + 1) (by omega)).trans hB4
    have hN5 := hN4.trans (b5.mono (by omega))
    have hT5 := hT4.below b5
    clear p0 p1 p2 p3 q0 q1 q2 q3 hA4 hB4 hN4 hT4 b5
    obtain ⟨p0, p1, p2, p3⟩ := block_four hA5
    obtain ⟨q0, q1, q2, q3⟩ := block_four hB5
    go_wp2_with fail
    refine (KF.out rname _ f7 H2.out hT5).mono ?_
    rintro e w6 ⟨rfl, b6⟩
    have z6 := b6.size
    have hA6 := (b6.block w3.heap.size (by omega)).trans hA5
    have hB6 := (b6.block (w3.heap.size + 1) (by omega)).trans hB5
    have hN6 := hN5.trans (b6.mono (by omega))
    have hT6 := Lib.hid (hT5.below b6)
    clear p0 p1 p2 p3 q0 q1 q2 q3 hA5 hB5 hN5 hT5 b6 KF H1 H2
    have HA6 := Lib.hid hA6
    have HB6 := Lib.hid hB6
    have HN6 := Lib.hid hN6
    have HT1 := Lib.hid t1
    have HT2 := Lib.hid t2
    have HF3 := Lib.hid f3
    have HROW := Lib.hid hrow
    have HC2 := Lib.hid hc2
    have KN : RowKit.Hid (∀ (l : List UInt8) (w : World), l.length < 100 → Tabs w → Calls Tryd.prog 26 #[.string ⟨l.toArray⟩] w fun e w' => (∃ v, e = .returned v ∧ IntsAt w' v (namedP l)) ∧ Below w.heap.size w w') := fun l w hl hT => by
      have := named_any ⟨l.toArray⟩ (by show l.toArray.size ≤ 1000000; simp; omega) w hT
      simpa using this
    have zL : w1.heap.size + k < w3.heap.size := t1.1
    have ztb : tb < w3.heap.size := t2.1
    have zg : g < w3.heap.size := hg3
    obtain ⟨p0, p1, p2, p3⟩ := block_four hA6
    clear hA6 hB6 hN6 t1 t2 f3 hrow hc2
    go_wp2_with fail
    go_loopw [7, 8, 9, 10] (fun iv _ _ _ wr => ∃ i : Nat, iv = .int .i64 i ∧ i ≤ tags.length ∧ Below w6.heap.size w6 wr) (fun iv _ _ _ _ => tags.length - (RowKit.intOf iv).toNat)
    case atStart => exact ⟨0, rfl, Nat.zero_le _, Below.refl _ _⟩
    case round =>
      clear p0 p1 p2 p3
      obtain ⟨i, rfl, hile, hbw⟩ := hrel
      have zw := hbw.size
      have hA7 := (hbw.block w3.heap.size (by omega)).trans HA6.out
      obtain ⟨p0, p1, p2, p3⟩ := block_four hA7
      clear hA7
      have hNw := HN6.out.trans (hbw.mono (by have := HN6.out.size; omega))
      by_cases hil : i < tags.length
      · have hi1 : (i : Int) < (tags.length : Int) := by omega
        have c7 := (HT1.out.below hNw).2 i hil
        rw [Nat.zero_add] at c7
        obtain ⟨_, _, hlt⟩ := HF3.out tags[i] (List.getElem_mem hil)
        obtain ⟨hk1, hk2⟩ := H3.out tags[i] (List.getElem_mem hil)
        have HK1 := Lib.hid hk1
        have HK2 := Lib.hid hk2
        have hT7 := hT6.out.below hbw
        obtain ⟨hnb1, hnb2⟩ := namedP_bound tags[i]
        clear hk1 hk2 hNw
        generalize tags[i] = tg at *
        go_wp2_with fail
        refine (KN.out tg _ hlt hT7).mono ?_
        rintro e w7 ⟨⟨v, rfl, hv⟩, b7⟩
        generalize namedP tg = ns at *
        obtain ⟨na, ncap, rfl, hnc, hnr⟩ := hv
        have HB7 := Lib.hid (hbw.trans (b7.mono zw))
        have HNR := Lib.hid hnr
        have HNB := Lib.hid hnb1
        have z7 := b7.size
        clear hnr hT7 b7 p0 p1 p2 p3 c7 hnb1
        go_wp2_with fail
        go_loopw [9, 10] (fun fv jv wr => ∃ j : Nat, j ≤ ns.length ∧ jv = .int .i64 j ∧ fv = .bool ((ns.take j).contains k) ∧ Below w7.heap.size w7 wr) (fun _ jv _ => ns.length - (RowKit.intOf jv).toNat)
        case atStart => exact ⟨0, Nat.zero_le _, rfl, rfl, Below.refl _ _⟩
        case round =>
          obtain ⟨j, hjle, rfl, rfl, hbj⟩ := hrel
          by_cases hjl : j < ns.length
          · have hne : ns ≠ [] := by intro e; subst e; simp at hjl
            obtain ⟨gn, rfl, hgn, hcell⟩ := HNR.out hne
            have x0 := hcell j hjl
            rw [← hbj.cell (p := ⟨gn, _, none⟩) hgn] at x0
            have hj1 : (j : Int) < (ns.length : Int) := by omega
            have HTK := Lib.hid (show (ns.take (j + 1)).contains k = ((ns.take j).contains k || ns[j] == k) by
              rw [List.take_succ_eq_append_getElem hjl, List.contains_eq_any_beq, List.contains_eq_any_beq, List.any_append]; simp only [List.any_cons, List.any_nil, Bool.or_false]; congr 1; rw [Bool.eq_iff_iff]; simp only [beq_iff_eq]; exact eq_comm)
            have hjb := HNB.out ns[j] (List.getElem_mem hjl)
            have FIN : RowKit.Hid (∀ b : Bool, ((ns.take j).contains k = true ∧ b = true ∨ (ns.take j).contains k = false ∧ b = (ns[j] == k)) → b = (ns.take (j + 1)).contains k) := fun b hb => by
              rw [HTK.out]
              rcases hb with ⟨h1, h2⟩ | ⟨h1, h2⟩ <;> rw [h1, h2] <;> simp
            rcases Nat.eq_zero_or_pos j with hj0 | hj0
            · subst hj0
              rw [show (List.take 0 ns).contains k = false by simp]
              generalize ns[0] = nj at *
              by_cases hjk : nj = k
              · subst hjk
                clear hcell
                go_wp2_with fail
                go_quiet (fail)
                have hbj := below_drewN (n := nq) hbj
                go_wp2
                go_roundw
                case rel => exact ⟨1, by omega, by go_num, by rw [← FIN.out true (by simp)], hbj⟩
                case measure => simp [RowKit.intOf]; omega
              · have bjk : ¬ (nj : Int) = (k : Int) := by omega
                have bjk' : ((nj : Int) == (k : Int)) = false := beq_eq_false_iff_ne.2 bjk
                clear hcell
                go_wp2_with fail
                go_quiet (fail)
                have hbj := below_drewN (n := nq) hbj
                go_wp2
                go_roundw
                case rel => exact ⟨1, by omega, by go_num, by rw [← FIN.out false (by simp; omega)], hbj⟩
                case measure => simp [RowKit.intOf]; omega
            · obtain ⟨m, rfl⟩ : ∃ m, j = m + 1 := ⟨j - 1, by omega⟩
              have x1 := hcell m (by omega)
              rw [← hbj.cell (p := ⟨gn, _, none⟩) hgn] at x1
              have hup : ns[m] < ns[m + 1] := List.pairwise_iff_getElem.1 HK2.out m (m + 1) (by omega) hjl (by omega)
              have hmb := HNB.out ns[m] (List.getElem_mem (by omega))
              clear hcell
              generalize ns[m] = nm at *
              generalize ns[m + 1] = nj at *
              have hge : ¬ (nj : Int) ≤ (nm : Int) := by omega
              have hge' : decide ((nj : Int) ≤ (nm : Int)) = false := decide_eq_false hge
              have m1 : (m : Int) < (ns.length : Int) := by omega
              have m0 : (0 : Int) < (m : Int) + 1 := by omega
              have m0' : (0 : Int) ≤ (m : Int) + 1 := by omega
              have em : ((m : Int) + 1).toNat = m + 1 := by omega
              have mw : IntKind.i64.wrap ((m : Int) + 1) = (m : Int) + 1 := by rw [IntKind.wrap_i64]; omega
              have mw' : IntKind.i64.wrap (m : Int) = (m : Int) := by rw [IntKind.wrap_i64]; omega
              have hj1 : (m : Int) + 1 < (ns.length : Int) := by omega
              cases hb : (ns.take (m + 1)).contains k
              · by_cases hjk : nj = k
                · subst hjk
                  go_wp2_with fail
                  go_quiet (fail)
                  have hbj := below_drewN (n := nq) hbj
                  go_wp2
                  go_roundw
                  case rel => exact ⟨m + 2, by omega, by go_num, by rw [← FIN.out true (by rw [hb]; simp)], hbj⟩
                  case measure => simp [RowKit.intOf]; omega
                · have bjk : ¬ (nj : Int) = (k : Int) := by omega
                  have bjk' : ((nj : Int) == (k : Int)) = false := beq_eq_false_iff_ne.2 bjk
                  go_wp2_with fail
                  go_quiet (fail)
                  have hbj := below_drewN (n := nq) hbj
                  go_wp2
                  go_roundw
                  case rel => exact ⟨m + 2, by omega, by go_num, by rw [← FIN.out false (by rw [hb]; simp; omega)], hbj⟩
                  case measure => simp [RowKit.intOf]; omega
              · go_wp2_with fail
                go_quiet (fail)
                have hbj := below_drewN (n := nq) hbj
                go_wp2
                go_roundw
                case rel => exact ⟨m + 2, by omega, by go_num, by rw [← FIN.out true (by rw [hb]; simp)], hbj⟩
                case measure => simp [RowKit.intOf]; omega
          · obtain rfl : j = ns.length := by omega
            rw [List.take_length] at *
            have hct : ns.contains k = true := by simpa using HK1.out
            rw [hct] at *
            go_wp2_with fail
            go_roundw
            case rel => exact ⟨i + 1, by go_num, by omega, HB7.out.trans (hbj.mono (by have := HB7.out.size; omega))⟩
            case measure => simp [RowKit.intOf]; omega
      · obtain rfl : i = tags.length := by omega
        have c8 := (hNw.cell (p := ⟨g, k * 4 + 2, none⟩) zg).trans HC2.out
        have r8 := (hNw.block (w1.heap.size + k) zL).trans HROW.out
        have c9 : wr.cell? ⟨w1.heap.size + k, 0, none⟩ = some (.string ⟨(tags[0]).toArray⟩) := (HT1.out.below hNw).2 0 tl0
        have f10 : wr.frozen? ⟨w1.heap.size + k, 0, none⟩ = false := by simp [World.frozen?, r8]
        have HB8 := Lib.hid hbw
        have HN8 := Lib.hid hNw
        have HT8 := Lib.hid (hT6.out.below hbw)
        have ht2w := Lib.hid (HT2.out.below hNw)
        have hq2 := Lib.hid ((block_four ((hbw.block (w3.heap.size + 1) (by omega)).trans HB6.out)).2.2.1)
        have zwr : w3.heap.size + 2 ≤ wr.heap.size := by omega
        clear hbw hNw r8
        go_wp2_with fail
        have hset : Below w1.heap.size wr (wr.setCell ⟨w1.heap.size + k, 0, none⟩ (.string ⟨#[120]⟩)) := (Below.refl _ _).setCell (p := ⟨w1.heap.size + k, 0, none⟩) (by show _ ≤ w1.heap.size + k; omega) _
        have hq2s : (wr.setCell ⟨w1.heap.size + k, 0, none⟩ (.string ⟨#[120]⟩)).cell? ⟨w3.heap.size + 1, 2, none⟩ = some (.slice (some ⟨tb, 2, none⟩) tags.length tc) := by
          rw [World.cell?_setCell_other _ _ _ _ (by intro e; injection e; omega)]; exact hq2.out
        have ht2s : TextsAt (wr.setCell ⟨w1.heap.size + k, 0, none⟩ (.string ⟨#[120]⟩)) tb 2 tags := by
          refine ⟨by simp; omega, fun j hj => ?_⟩
          rw [World.cell?_setCell_other _ _ _ _ (by intro e; injection e; exact hap (by omega))]; exact ht2w.out.2 j hj
        have zs : (wr.setCell ⟨w1.heap.size + k, 0, none⟩ (.string ⟨#[120]⟩)).heap.size = wr.heap.size := by simp
        have hT2s := Lib.hid ht2s
        have hQ2s := Lib.hid hq2s
        have HSET := Lib.hid hset
        clear ht2s hset c8 c9 f10 hq2s p0 p1 p2 p3
        generalize wr.setCell ⟨w1.heap.size + k, 0, none⟩ (.string ⟨#[120]⟩) = ws at *
        have hq2d : ws.drew.cell? ⟨w3.heap.size + 1, 2, none⟩ = some (.slice (some ⟨tb, 2, none⟩) tags.length tc) := hQ2s.out
        have zsd : ws.drew.heap.size = ws.heap.size := rfl
        have z13 : w3.heap.size + 1 < ws.heap.size := by omega
        have HFIN := Lib.hid (HW3.out.trans ((HN6.out.mono (by omega)).trans ((HB8.out.mono (by omega)).trans (HSET.out.mono (by omega)))))
        generalize w3.heap.size + 1 = L3 at *
        clear HSET HB8 HN8 HT8 ht2w hq2 HA6 HB6 HN6 HT1 HT2 HF3 HROW HC2 KN hT6 H3 hQ2s zs zwr hap hgl hll hg3 zL ztb zg z6 z5 z3 z2 z1 hwl
        have HALL : RowKit.Hid (∀ (w9 : World) (g9 : Nat), RulesIn w9 ws.drew.heap.size g9 → Below ws.drew.heap.size ws.drew w9 → w9.cell? ⟨L3, 2, none⟩ = some (.slice (some ⟨tb, 2, none⟩) tags.length tc) ∧ w9.cell? ⟨g9, k * 4 + 2, none⟩ = some (.slice (some ⟨ws.drew.heap.size + k, 0, none⟩) tags.length tags.length) ∧ TextsAt w9 (ws.drew.heap.size + k) 0 tags ∧ TextsAt w9 tb 2 tags ∧ Below w.heap.size w w9) := fun w9 g9 hR9 b9 => by
          obtain ⟨m1, m2⟩ := HRT.out _ _ _ hR9
          have hz := HFIN.out.size
          exact ⟨(b9.cell (p := ⟨L3, 2, none⟩) (by show L3 < ws.drew.heap.size; omega)).trans hq2d, m1, m2, (hT2s.out.below ((Below.refl _ ws).drew)).below b9, (HFIN.out.drew).trans (b9.mono (by omega))⟩
        clear HRT HFIN hT2s
        rename_i hbig K2 hsmall
        clear hbig
        go_region_with (first
          | (go_at_call 28; refine (rules_all_any _).mono ?_; rintro e w9 ⟨⟨g9, rfl, hR9⟩, b9⟩; obtain ⟨k9, m1, m2, m3, m4⟩ := HALL.out _ _ hR9 b9; clear hR9 b9)
          | (go_at_call 30; refine (sameTexts_any tags (by omega) _ 0 _ _ 2 _ _ m2 m3).mono ?_; rintro e w10 ⟨rfl, b10⟩))
        all_goals
          go_wp2_with fail
          go_ret
          exact ⟨rfl, m4.trans (b10.mono m4.size)⟩
end rulesAll
end Go.Proofs.YtlebikmiophghaaDoor
