/-
  block, inline, holds, level, text, fields: a node's own fields. Conditions: bounds on sizes.
-/
import Derived.Test.YtlebikmiophghaaDoorTreeRow
import Derived.Test.YtlebikmiophghaaDoorShelf
import Derived.Deep.Cut
import Derived.Deep.CutRange
set_option linter.unusedSimpArgs false
set_option linter.unusedVariables false
namespace Go.Proofs.YtlebikmiophghaaDoor
open Go.RowKit Go.Lib

set_option maxRecDepth 100000 in
set_option maxHeartbeats 1000000 in
theorem block_any (k : Int) (w : World) : Calls Tryd.prog 71 #[.int .i64 k] w fun e w' => e = .returned (.bool (blockK k)) ∧ w' = w := by
  go_enter Tryd.func71, Tryd.ntmps71
  go_wp2
  all_goals
    go_ret
    exact ⟨ret_bool (by unfold blockK; simp_all [bne] <;> omega), rfl⟩
set_option maxRecDepth 100000 in
set_option maxHeartbeats 1000000 in
theorem inline_any (k : Int) (w : World) : Calls Tryd.prog 72 #[.int .i64 k] w fun e w' => e = .returned (.bool (inlineK k)) ∧ w' = w := by
  go_enter Tryd.func72, Tryd.ntmps72
  go_wp2
  all_goals
    go_ret
    exact ⟨ret_bool (by unfold inlineK; simp_all <;> omega), rfl⟩
set_option maxRecDepth 100000 in
set_option maxHeartbeats 4000000 in
theorem holds_any (k d : Int) (w : World) : Calls Tryd.prog 54 #[.int .i64 k, .int .i64 d] w fun e w' => e = .returned (.bool (holdsP k d)) ∧ w' = w := by
  go_enter Tryd.func54, Tryd.ntmps54
  go_wp2_with (first
    | (go_at_call 71; refine (block_any d w).mono ?_; rintro e w1 ⟨rfl, rfl⟩)
    | (go_at_call 72; refine (inline_any d w).mono ?_; rintro e w1 ⟨rfl, rfl⟩))
  all_goals
    go_ret
    exact ⟨ret_bool (by unfold holdsP; simp_all <;> omega), rfl⟩
set_option maxRecDepth 100000 in
set_option maxHeartbeats 4000000 in
theorem level_any (x : NodeP) (kv pv : Value) (w : World) : Calls Tryd.prog 69 #[.agg #[.int .i64 x.kind, .int .i64 x.fr, .int .i64 x.to, .int .i64 x.level, .string x.text, .string x.link, .string x.title, .bool x.tight, kv, pv]] w fun e w' => e = .returned (.bool (levelP x)) ∧ Below w.heap.size w w' := by
  obtain ⟨kd, f, t, lv, tx, lk, ti, tg, ks, ps⟩ := x
  simp only at *
  go_enter Tryd.func69, Tryd.ntmps69
  go_wp2
  all_goals
    go_ret
    exact ⟨ret_bool (by unfold levelP; simp_all <;> omega), (Below.refl _ w).alloc (Nat.le_refl _) _⟩

theorem cells_ten {w : World} {L : Nat} {a0 a1 a2 a3 a4 a5 a6 a7 a8 a9 : Value} {T : TypeId} {F : Nat × Nat} (h : w.heap[L]? = some (.cells #[a0, a1, a2, a3, a4, a5, a6, a7, a8, a9] T F)) :
    w.cell? ⟨L, 0, none⟩ = some a0 ∧ w.cell? ⟨L, 1, none⟩ = some a1 ∧ w.cell? ⟨L, 2, none⟩ = some a2 ∧ w.cell? ⟨L, 3, none⟩ = some a3 ∧ w.cell? ⟨L, 4, none⟩ = some a4 ∧ w.cell? ⟨L, 5, none⟩ = some a5 ∧ w.cell? ⟨L, 6, none⟩ = some a6 ∧ w.cell? ⟨L, 7, none⟩ = some a7 ∧ w.cell? ⟨L, 8, none⟩ = some a8 ∧ w.cell? ⟨L, 9, none⟩ = some a9 := by
  simp [World.cell?, h]
theorem mark_dot (c : UInt8) : decide (0 ≤ Lib.indexByte [46, 41] c) = [46, 41].any fun x => x == c := by
  by_cases h1 : (46 : UInt8) = c
  · subst h1; decide
  · by_cases h2 : (41 : UInt8) = c
    · subst h2; decide
    · simp [Lib.indexByte, h1, h2]
theorem mark_dash (c : UInt8) : decide (0 ≤ Lib.indexByte [45, 43, 42] c) = [45, 43, 42].any fun x => x == c := by
  by_cases h1 : (45 : UInt8) = c
  · subst h1; decide
  · by_cases h2 : (43 : UInt8) = c
    · subst h2; decide
    · by_cases h3 : (42 : UInt8) = c
      · subst h3; decide
      · simp [Lib.indexByte, h1, h2, h3]
theorem emptyL (s : ByteArray) : s.toList.isEmpty = (s.size == 0) := by
  rw [Go.ByteArray.toList_eq]
  obtain ⟨⟨l⟩⟩ := s
  cases l <;> rfl
theorem size_one {s : ByteArray} (h : s.size = 1) : ∃ c, s = ⟨#[c]⟩ := by
  obtain ⟨⟨l⟩⟩ := s
  match l, h with
  | [c], _ => exact ⟨c, rfl⟩
set_option maxRecDepth 100000 in
set_option maxHeartbeats 4000000 in
theorem text_any (x : NodeP) (kv pv : Value) (w : World) (hs : x.text.size ≤ 140737488355328) : Calls Tryd.prog 70 #[.agg #[.int .i64 x.kind, .int .i64 x.fr, .int .i64 x.to, .int .i64 x.level, .string x.text, .string x.link, .string x.title, .bool x.tight, kv, pv]] w fun e w' => e = .returned (.bool (textP x)) ∧ Below w.heap.size w w' := by
  obtain ⟨kd, f, t, lv, tx, lk, ti, tg, ks, ps⟩ := x
  simp only at *
  by_cases h3 : kd = 3
  · subst h3
    by_cases h1 : tx.size = 1
    · obtain ⟨c, rfl⟩ := size_one h1
      clear h1 hs
      have hz : (⟨#[c]⟩ : ByteArray).size = 1 := rfl
      have c1 := mark_dot c
      have c2 := mark_dash c
      by_cases hl : 0 ≤ lv
      · have hR : textP ⟨3, f, t, lv, ⟨#[c]⟩, lk, ti, tg, ks, ps⟩ = [46, 41].any fun x => x == c := by simp [textP, markL, hl, hz]
        rw [hR, ← c1]
        clear c1 c2 hR
        go_enter Tryd.func70, Tryd.ntmps70
        go_wp2_with (go_at_call 85; refine (Tryd.strings_Contains_one ⟨#[46, 41]⟩ c _).mono ?_; rintro e w1 ⟨rfl, rfl⟩)
        go_ret
        exact ⟨rfl, (Below.refl _ w).alloc (Nat.le_refl _) _⟩
      · have hR : textP ⟨3, f, t, lv, ⟨#[c]⟩, lk, ti, tg, ks, ps⟩ = [45, 43, 42].any fun x => x == c := by simp [textP, markL, hl, hz]
        rw [hR, ← c2]
        clear c1 c2 hR
        go_enter Tryd.func70, Tryd.ntmps70
        go_wp2_with (go_at_call 85; refine (Tryd.strings_Contains_one ⟨#[45, 43, 42]⟩ c _).mono ?_; rintro e w1 ⟨rfl, rfl⟩)
        go_ret
        exact ⟨rfl, (Below.refl _ w).alloc (Nat.le_refl _) _⟩
    · have hR : textP ⟨3, f, t, lv, tx, lk, ti, tg, ks, ps⟩ = false := by simp [textP, h1]
      rw [hR]
      have h1' : ((tx.size : Int) == 1) = false := by rw [beq_eq_false_iff_ne]; omega
      clear hR
      go_enter Tryd.func70, Tryd.ntmps70
      go_wp2_with fail
      all_goals
        go_ret
        exact ⟨rfl, (Below.refl _ w).alloc (Nat.le_refl _) _⟩
  · clear hs
    go_enter Tryd.func70, Tryd.ntmps70
    go_wp2_with fail
    all_goals
      go_ret
      refine ⟨ret_bool ?_, (Below.refl _ w).alloc (Nat.le_refl _) _⟩
      try rw [emptyL]
      unfold textP
      simp_all

set_option maxRecDepth 100000 in
set_option maxHeartbeats 8000000 in
theorem fields_any (x : NodeP) (a b : Option Addr) (c d : Nat) (w : World) (hs : x.text.size ≤ 140737488355328) : Calls Tryd.prog 53 #[.agg #[.int .i64 x.kind, .int .i64 x.fr, .int .i64 x.to, .int .i64 x.level, .string x.text, .string x.link, .string x.title, .bool x.tight, .slice a x.kids.length c, .slice b x.pieces.length d]] w fun e w' => e = .returned (.bool (fieldsP x)) ∧ Below w.heap.size w w' := by
  have HLev := Lib.hid (level_any x (.slice a x.kids.length c) (.slice b x.pieces.length d))
  have HTex := Lib.hid (fun w => text_any x (.slice a x.kids.length c) (.slice b x.pieces.length d) w hs)
  have HF : RowKit.Hid (fieldsP x = (knownP x && placesP x && extrasP x && levelP x && textP x && (!(x.kind == 3) || decide (0 < x.kids.length)))) := rfl
  have HW : Below w.heap.size w (w.alloc (.cells #[.int .i64 x.kind, .int .i64 x.fr, .int .i64 x.to, .int .i64 x.level, .string x.text, .string x.link, .string x.title, .bool x.tight, .slice a x.kids.length c, .slice b x.pieces.length d] 33)) := (Below.refl _ w).alloc (Nat.le_refl _) _
  have HN := heap_alloc_new w (.cells #[.int .i64 x.kind, .int .i64 x.fr, .int .i64 x.to, .int .i64 x.level, .string x.text, .string x.link, .string x.title, .bool x.tight, .slice a x.kids.length c, .slice b x.pieces.length d] 33)
  generalize hW : w.alloc (.cells #[.int .i64 x.kind, .int .i64 x.fr, .int .i64 x.to, .int .i64 x.level, .string x.text, .string x.link, .string x.title, .bool x.tight, .slice a x.kids.length c, .slice b x.pieces.length d] 33) = W at HW HN
  have HWW := Lib.hid hW
  have HBW := Lib.hid HW
  obtain ⟨c0, c1, c2, c3, c4, c5, c6, c7, c8, c9⟩ := cells_ten HN
  have HNN := Lib.hid HN
  clear HW HN
  obtain ⟨b16, h16⟩ : ∃ v, (x.kind == 16) = v := ⟨_, rfl⟩
  obtain ⟨b17, h17⟩ : ∃ v, (x.kind == 17) = v := ⟨_, rfl⟩
  obtain ⟨b8, h8⟩ : ∃ v, (x.kind == 8) = v := ⟨_, rfl⟩
  obtain ⟨b6, h6⟩ : ∃ v, (x.kind == 6) = v := ⟨_, rfl⟩
  obtain ⟨b3, h3⟩ : ∃ v, (x.kind == 3) = v := ⟨_, rfl⟩
  obtain ⟨n3, hn3⟩ : ∃ v, (x.kind != 3) = v := ⟨_, rfl⟩
  obtain ⟨d1, hd1⟩ : ∃ v, decide (1 ≤ x.kind) = v := ⟨_, rfl⟩
  obtain ⟨d18, hd18⟩ : ∃ v, decide (x.kind ≤ 18) = v := ⟨_, rfl⟩
  obtain ⟨e0, he0⟩ : ∃ v, decide (0 ≤ x.fr) = v := ⟨_, rfl⟩
  obtain ⟨e1, he1⟩ : ∃ v, decide (x.fr ≤ x.to) = v := ⟨_, rfl⟩
  obtain ⟨e2, he2⟩ : ∃ v, ((x.pieces.length : Int) == 0) = v := ⟨_, rfl⟩
  obtain ⟨l0, hl0⟩ : ∃ v, x.link.toList.isEmpty = v := ⟨_, rfl⟩
  obtain ⟨t0, ht0⟩ : ∃ v, x.title.toList.isEmpty = v := ⟨_, rfl⟩
  obtain ⟨kp, hkp⟩ : ∃ v, decide ((0 : Int) < (x.kids.length : Int)) = v := ⟨_, rfl⟩
  have HR : RowKit.Hid (fieldsP x = (d1 && d18 && (e0 && e1 && e2) && ((l0 || (b16 || b17) || b8) && (t0 || (b16 || b17)) && (!x.tight || b3 || b6)) && levelP x && textP x && (n3 || kp))) := by
    show _ = _
    have q2 : (x.pieces.length == 0) = e2 := by rw [← he2, Bool.eq_iff_iff]; simp only [beq_iff_eq]; omega
    have q3 : decide (0 < x.kids.length) = kp := by rw [← hkp, decide_eq_decide]; omega
    have q4 : (!(x.kind == 3)) = n3 := hn3
    unfold fieldsP knownP placesP extrasP linkedP
    rw [q4, h16, h17, h8, h6, h3, hd1, hd18, he0, he1, q2, ← emptyL, ← emptyL, hl0, ht0, q3]
  rw [HR.out]
  have H16 := Lib.hid h16; have H17 := Lib.hid h17; have H8 := Lib.hid h8; have H6 := Lib.hid h6; have H3 := Lib.hid h3; have HN3 := Lib.hid hn3; have HD1 := Lib.hid hd1; have HD18 := Lib.hid hd18
  have HE0 := Lib.hid he0; have HE1 := Lib.hid he1; have HE2 := Lib.hid he2; have HL0 := Lib.hid hl0; have HT0 := Lib.hid ht0; have HKP := Lib.hid hkp
  clear h16 h17 h8 h6 h3 hn3 hd1 hd18 he0 he1 he2 hl0 ht0 hkp HF HR
  generalize levelP x = lb at *
  generalize textP x = tb at *
  go_enter Tryd.func53, Tryd.ntmps53
  go_upto_region 1 with fail
  clear hW
  go_cut [3] from 7 (fun v wx => v = .bool (b16 || b17) ∧ wx = W)
  case first =>
    have h16 := H16.out
    have h17 := H17.out
    go_wp2_with fail
    all_goals
      go_meet
      case rel => exact ⟨congrArg Value.bool (by simp_all), rfl⟩
  case rest =>
    obtain ⟨rfl, rfl⟩ := hcut
    generalize hqlkd : (b16 || b17) = lkd at *
    have HQlkd := Lib.hid hqlkd
    clear hqlkd
    go_upto_region 2 with fail
    go_cut [3, 4] from 7 (fun u v wy => u = .bool lkd ∧ v = .bool (d1 && d18) ∧ wy = wc)
    case first =>
      have h1 := HD1.out
      have h2 := HD18.out
      go_wp2_with fail
      all_goals
        go_meet
        case rel => exact ⟨rfl, congrArg Value.bool (by simp_all), rfl⟩
    case rest =>
      obtain ⟨rfl, rfl, rfl⟩ := hcut
      generalize hqkn : (d1 && d18) = kn at *
      have HQkn := Lib.hid hqkn
      clear hqkn
      go_upto_region 3 with fail
      go_cut [3, 4, 5] from 7 (fun u v z wy => u = .bool lkd ∧ v = .bool kn ∧ z = .bool (e0 && e1 && e2) ∧ wy = wc)
      case first =>
        have h1 := HE0.out
        have h2 := HE1.out
        have h3 := HE2.out
        go_wp2_with fail
        all_goals
          go_meet
          case rel => exact ⟨rfl, rfl, congrArg Value.bool (by simp_all), rfl⟩
      case rest =>
        obtain ⟨rfl, rfl, rfl, rfl⟩ := hcut
        generalize hqpl : (e0 && e1 && e2) = pl at *
        have HQpl := Lib.hid hqpl
        clear hqpl
        go_upto_region 4 with fail
        go_cut [3, 4, 5, 6] from 7 (fun u v z y wy => u = .bool lkd ∧ v = .bool kn ∧ z = .bool pl ∧ y = .bool ((l0 || lkd || b8) && (t0 || lkd) && (!x.tight || b3 || b6)) ∧ wy = wc)
        case first =>
          have h1 := HL0.out
          have h2 := HT0.out
          have h3 := H8.out
          have h4 := H3.out
          have h5 := H6.out
          generalize x.tight = tg at *
          cases tg
          all_goals go_wp2_with fail
          all_goals
            go_meet
            case rel => exact ⟨by first | rfl | simp_all, rfl, rfl, congrArg Value.bool (by simp_all), rfl⟩
        case rest =>
          obtain ⟨rfl, rfl, rfl, rfl, rfl⟩ := hcut
          generalize hqex : ((l0 || lkd || b8) && (t0 || lkd) && (!x.tight || b3 || b6)) = ex at *
          have HQex := Lib.hid hqex
          clear hqex
          have h1 := HN3.out
          have h2 := HKP.out
          have h3 := HBW.out
          have hz : w.heap.size + 1 ≤ wc.heap.size := (Array.getElem?_eq_some_iff.1 HNN.out).1
          have HRD : RowKit.Hid (∀ X, Below wc.heap.size wc X → X.cell? ⟨w.heap.size, 0, none⟩ = some (.int .i64 x.kind) ∧ X.cell? ⟨w.heap.size, 1, none⟩ = some (.int .i64 x.fr) ∧ X.cell? ⟨w.heap.size, 2, none⟩ = some (.int .i64 x.to) ∧ X.cell? ⟨w.heap.size, 3, none⟩ = some (.int .i64 x.level) ∧ X.cell? ⟨w.heap.size, 4, none⟩ = some (.string x.text) ∧ X.cell? ⟨w.heap.size, 5, none⟩ = some (.string x.link) ∧ X.cell? ⟨w.heap.size, 6, none⟩ = some (.string x.title) ∧ X.cell? ⟨w.heap.size, 7, none⟩ = some (.bool x.tight) ∧ X.cell? ⟨w.heap.size, 8, none⟩ = some (.slice a x.kids.length c) ∧ X.cell? ⟨w.heap.size, 9, none⟩ = some (.slice b x.pieces.length d)) := fun X h => cells_ten ((h.block _ (by omega)).trans HNN.out)
          go_wp2_with (first
            | (go_at_call 69; (with_reducible refine (HLev.out wc).mono ?_); rintro e w1 ⟨rfl, b1⟩; obtain ⟨g0, g1, g2, g3, g4, g5, g6, g7, g8, g9⟩ := HRD.out w1 b1)
            | (go_at_call 70; (with_reducible refine (HTex.out w1).mono ?_); rintro e w2 ⟨rfl, b2⟩; have b3 := b1.trans (b2.mono b1.size); obtain ⟨f0, f1, f2, f3, f4, f5, f6, f7, f8, f9⟩ := HRD.out w2 b3))
          all_goals go_ret
          all_goals exact ⟨ret_bool (by rw [HQlkd.out, HQkn.out, HQpl.out, HQex.out]; simp only [*, Bool.and_true, Bool.true_and, Bool.and_false, Bool.false_and, Bool.or_true, Bool.true_or, Bool.or_false, Bool.false_or] <;> (rw [← HKP.out, decide_eq_decide]; omega)), by first | exact h3 | exact h3.trans (b3.mono h3.size) | exact h3.trans (b1.mono h3.size)⟩
end Go.Proofs.YtlebikmiophghaaDoor
