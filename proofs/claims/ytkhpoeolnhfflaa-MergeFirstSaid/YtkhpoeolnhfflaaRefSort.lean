/-
  stetref02.before and Sorted: the edits in order, equal ones as they stood. Conditions: at most 1000000 edits.
-/
import Derived.Test.YtkhpoeolnhfflaaEditMove
import Derived.Shelf.SlSortCmp.QuietGrown
set_option linter.unusedSimpArgs false
set_option linter.unusedVariables false
namespace Go.Proofs.Ytkhpoeolnhfflaa
open Go.Shelf Go.RowKit Go.Lib Go.Sort

theorem grow_two (w : World) (a b : Obj) : ((w.alloc a).alloc b) = grow (w.drewN 0) #[a, b] := by
  simp only [alloc_eq_grow, grow_grow]; rfl

set_option maxHeartbeats 2000000 in
set_option maxRecDepth 100000 in
theorem before_any (x y : EditP) (w : World) : Calls Try.prog 50 #[.agg (encE x).toArray, .agg (encE y).toArray] w fun e w' => e = .returned (.bool (ltE x y)) ∧ ∃ q os, w' = grow (w.drewN q) os := by
  obtain ⟨x0, x1, x2⟩ := x
  obtain ⟨y0, y1, y2⟩ := y
  have hlt : ltE ⟨x0, x1, x2⟩ ⟨y0, y1, y2⟩ = (decide (x0 < y0) || (decide (x0 = y0) && decide (x1 < y1))) := rfl
  rw [hlt]
  unfold encE
  by_cases h0 : x0 < y0
  · have hd : decide (x0 < y0) = true := decide_eq_true h0
    go_enter Try.func50, Try.ntmps50
    go_wp2_with fail
    go_ret
    exact ⟨by simp [h0], 0, _, grow_two _ _ _⟩
  · have hd : decide (x0 < y0) = false := decide_eq_false h0
    by_cases h1 : x0 = y0
    · subst h1
      by_cases h2 : x1 < y1
      · go_enter Try.func50, Try.ntmps50
        go_wp2_with fail
        go_ret
        exact ⟨by simp [h2], 0, _, grow_two _ _ _⟩
      · go_enter Try.func50, Try.ntmps50
        go_wp2_with fail
        go_ret
        exact ⟨by simp [h2], 0, _, grow_two _ _ _⟩
    · have hb : (x0 == y0) = false := beq_eq_false_iff_ne.2 h1
      go_enter Try.func50, Try.ntmps50
      go_wp2_with fail
      go_ret
      exact ⟨by simp [h0, h1], 0, _, grow_two _ _ _⟩

theorem below_grown {B n : Nat} {a w : World} {os : Array Obj} (h : Below B a w) (hB : B ≤ w.heap.size) : Below B a (grow (w.drewN n) os) :=
  ⟨h.os, h.tape, h.output, by rw [size_grow]; exact Nat.le_trans h.size (Nat.le_add_right _ _), fun k hk => by
    rw [← h.block k hk]
    simp only [grow]
    rw [Array.getElem?_append_left (by show k < w.heap.size; omega)]; rfl⟩

theorem own_snoc {w : World} {base : Nat} {v : Value} {N : List EditP} {x : EditP} (h : w.ownsRow base 50 3 v (N.length + 1) (editCells N ++ [.int .i64 x.fr, .int .i64 x.to, .string x.text])) : w.ownsRow base 50 3 v (N ++ [x]).length (editCells (N ++ [x])) := by
  rw [editCells_snoc, List.length_append]; exact h
theorem one_cells (x : EditP) : ∀ u ∈ [Value.int .i64 x.fr, .int .i64 x.to, .string x.text], u.oneCell' = true := one_encE x
theorem ins_step_true {e x : EditP} {S T : List EditP} {j : Nat} (hj : j < S.length) (hx : S[j] = x) (h : ins ltE e S = S.take j ++ ins ltE e (S.drop j)) (hl : ltE e x = true) : (S.take j ++ [e]) ++ [x] ++ S.drop (j + 1) = ins ltE e S := by
  rw [h, List.drop_eq_getElem_cons hj, hx]
  simp [ins, hl]
theorem ins_step_false {e x : EditP} {S : List EditP} {j : Nat} (hj : j < S.length) (hx : S[j] = x) (h : ins ltE e S = S.take j ++ ins ltE e (S.drop j)) (hl : ltE e x = false) : ins ltE e S = S.take (j + 1) ++ ins ltE e (S.drop (j + 1)) := by
  rw [h, List.drop_eq_getElem_cons hj, hx, List.take_succ_eq_append_getElem hj, hx]
  simp [ins, hl]

set_option maxHeartbeats 8000000 in
set_option maxRecDepth 100000 in
theorem refSorted_any (a : Option Addr) (cap : Nat) (l : List EditP) (hl : l.length ≤ 1000000) (w : World) (hI : EditsIn w.heap.size w (.slice a l.length cap) l) :
    Calls Try.prog 34 #[.slice a l.length cap] w fun e w' => (∃ a' cap', e = .returned (.slice a' l.length cap') ∧ EditsIn w'.heap.size w' (.slice a' l.length cap') (ss ltE l)) ∧ Below w.heap.size w w' := by
  obtain ⟨i0, hi, hz0, hz1, hz2⟩ := info_parts infoEdit
  have HI := Lib.hid hI
  have hN : Below w.heap.size w (w.alloc (.cells #[] 50)) := (Below.refl _ w).alloc (Nat.le_refl _) _
  have mixed : Try.prog.follows Departure.mixedOrders = true := rfl
  clear hI
  go_enter Try.func34, Try.ntmps34
  go_wp2
  go_loopw [3, 4, 5, 6, 7] (fun ov iv _ _ _ wr => ∃ (k : Nat) (ao : Option Addr) (co : Nat), k ≤ l.length ∧ iv = .int .i64 k ∧ ov = .slice ao k co ∧ EditsIn wr.heap.size wr (.slice ao (ss ltE (l.take k)).length co) (ss ltE (l.take k)) ∧ Below w.heap.size w wr) (fun _ iv _ _ _ _ => l.length - (RowKit.intOf iv).toNat)
  case atStart => exact ⟨0, _, _, Nat.zero_le _, rfl, rfl, ⟨_, _, rfl, fun h => absurd rfl h⟩, hN⟩
  case round =>
    clear hN
    obtain ⟨k, ao, co, hk, rfl, rfl, hS, hbw⟩ := hrel
    rename World => wo
    have zr := hbw.size
    by_cases hlt : k < l.length
    · have hlt' : (k : Int) < (l.length : Int) := by omega
      have hSl : (ss ltE (l.take k)).length = k := by rw [ss_length]; simp; omega
      have HSN := Lib.hid (show ss ltE (l.take (k + 1)) = ins ltE l[k] (ss ltE (l.take k)) by rw [List.take_succ_eq_append_getElem hlt, ss_snoc])
      have HE : RowKit.Hid (∃ g off, a = some ⟨g, off, none⟩ ∧ ∀ wx, Below wo.heap.size wo wx → EditAt wx g (off + k * 3) l[k]) := by
        obtain ⟨a', cap', hv, hr⟩ := HI.out.below hbw
        injection hv with hv1
        obtain ⟨g, off, e1, hg, hc⟩ := hr (by intro e; subst e; simp at hlt)
        exact ⟨g, off, hv1.trans e1, fun wx hx => by
          have := hc k hlt
          exact ⟨by rw [hx.cell (p := ⟨g, _, none⟩) (show g < _ by omega)]; exact this.fr, by rw [hx.cell (p := ⟨g, _, none⟩) (show g < _ by omega)]; exact this.to, by rw [hx.cell (p := ⟨g, _, none⟩) (show g < _ by omega)]; exact this.text⟩⟩
      have HS := Lib.hid hS
      obtain ⟨S, hSS⟩ : ∃ S, S = ss ltE (l.take k) := ⟨_, rfl⟩
      rw [← hSS] at HSN HS hSl hS
      obtain ⟨e, he⟩ : ∃ e, e = l[k] := ⟨_, rfl⟩
      rw [← he] at HSN HE
      clear he hS hSS
      have hwN : Below wo.heap.size wo (wo.alloc (.cells #[] 50)) := (Below.refl _ wo).alloc (Nat.le_refl _) _
      have hownN : (wo.alloc (.cells #[] 50)).ownsRow wo.heap.size 50 3 (.slice (some ⟨wo.heap.size, 0, none⟩) 0 0) 0 [] := ⟨rfl, .inr ⟨wo.heap.size, 0, #[], rfl, Nat.le_refl _, heap_alloc_new wo _, Nat.le_refl _, by decide, rfl, rfl⟩⟩
      have HSL := Lib.hid hSl
      clear hSl
      go_wp2_with fail
      go_loopw [5, 6, 7] (fun nv pv jv wx => ∃ (j : Nat) (b : Bool) (N : List EditP), j ≤ k ∧ jv = .int .i64 j ∧ pv = .bool b ∧ wx.ownsRow wo.heap.size 50 3 nv N.length (editCells N) ∧ Below wo.heap.size wo wx ∧ N.length ≤ j + 1 ∧
          RowKit.Hid ((b = false ∧ N = S.take j ∧ ins ltE e S = S.take j ++ ins ltE e (S.drop j)) ∨ (b = true ∧ N ++ S.drop j = ins ltE e S))) (fun _ _ jv _ => k - (RowKit.intOf jv).toNat)
      case atStart => exact ⟨0, false, [], Nat.zero_le _, rfl, rfl, hownN, hwN, by simp, .inl ⟨rfl, by simp, by simp⟩⟩
      case round =>
        clear hownN hwN
        obtain ⟨j, b, N, hj, rfl, rfl, hown, hbx, hNl, HN⟩ := hrel
        have zx := hbx.size
        obtain ⟨gE, oE, rfl, hEc⟩ := HE.out
        have HEc := Lib.hid hEc
        clear hEc
        by_cases hjl : j < k
        · have hjl' : (j : Int) < (k : Int) := by omega
          have hjS : j < S.length := by rw [HSL.out]; exact hjl
          obtain ⟨gS, oS, rfl, hSc⟩ : ∃ g off, ao = some ⟨g, off, none⟩ ∧ ∀ wy, Below wo.heap.size wo wy → EditAt wy g (off + j * 3) S[j] := by
            obtain ⟨a', cap', hv, hr⟩ := HS.out
            injection hv with hv1
            obtain ⟨g, off, e1, hg, hc⟩ := hr (by intro e; subst e; simp at hjS)
            exact ⟨g, off, hv1.trans e1, fun wy hx => by
              have := hc j hjS
              exact ⟨by rw [hx.cell (p := ⟨g, _, none⟩) hg]; exact this.fr, by rw [hx.cell (p := ⟨g, _, none⟩) hg]; exact this.to, by rw [hx.cell (p := ⟨g, _, none⟩) hg]; exact this.text⟩⟩
          obtain ⟨x, hx⟩ : ∃ x, S[j] = x := ⟨_, rfl⟩
          rw [hx] at hSc
          have HX := Lib.hid hx
          have HSc := Lib.hid hSc
          have HJS := Lib.hid hjS
          clear hx hSc
          cases b
          · have hQ : ∀ (n : Nat) (os : Array Obj), Below wo.heap.size wo (grow (wr.drewN n) os) := fun n os => below_grown hbx (by omega)
            have q0 := fun n os => (HEc.out _ (hQ n os)).fr
            have q1 := fun n os => (HEc.out _ (hQ n os)).to
            have q2 := fun n os => (HEc.out _ (hQ n os)).text
            have r0 := fun n os => (HSc.out _ (hQ n os)).fr
            have r1 := fun n os => (HSc.out _ (hQ n os)).to
            have r2 := fun n os => (HSc.out _ (hQ n os)).text
            have hc := fun (n : Nat) (os : Array Obj) => before_any e x (grow (wr.drewN n) os)
            cases hlb : ltE e x
            · rw [hlb] at hc
              go_wp2_with fail
              go_quiet_grown (first | (go_at_call 50; refine Calls.grown_of (hc _ _)))
              have hbx5 : Below wo.heap.size wo (grow (wr.drewN nq) osq) := hQ nq osq
              have hown5 := ownsRow_below hown (below_grown (n := nq) (os := osq) (Below.refl _ wr) (Nat.le_refl _))
              obtain ⟨d0, d1, d2⟩ := HSc.out _ hbx5
              have z5 := hbx5.size
              clear q0 q1 q2 r0 r1 r2 hc hQ hown
              generalize grow (wr.drewN nq) osq = w5 at *
              have hNj : N.length ≤ 1000000 := by omega
              go_wp2_with (at_builtin; (refine wpList_append_own _ rfl _ _ 30 rfl wo.heap.size 50 i0 (.agg #[.int .i64 0, .int .i64 0, .string ⟨#[]⟩]) 3 32 Try.underlying30 hi hz0 hz1 hz2 rfl (by decide) _ _ _ rfl (hown5.alloc _) ⟨w5.heap.size, 0, none⟩ 1 1 [.int .i64 x.fr, .int .i64 x.to, .string x.text] rfl rfl (new_three _ _ _ _ _) (one_cells x) (by unfold maxLen; simp at *; omega) (by simp at *; omega) (by simp; omega) ?_); intro v6 w6 hown6 hgrow6 _)
              go_roundw
              case rel =>
                refine ⟨j + 1, false, N ++ [x], by omega, by go_num, rfl, own_snoc hown6, (hbx5.alloc (by omega) _).grown hgrow6 (by simp; omega) (fun kk hk => (ownsRow_lt (hown5.alloc (.cells #[.int .i64 x.fr, .int .i64 x.to, .string x.text] 50)) hk).1), by simp; omega, ?_⟩
                rcases HN.out with ⟨_, h2, h3⟩ | ⟨h1, _⟩
                · exact .inl ⟨rfl, by rw [h2, List.take_succ_eq_append_getElem HJS.out, HX.out], ins_step_false HJS.out HX.out h3 hlb⟩
                · cases h1
              case measure => simp [RowKit.intOf]; omega
            · rw [hlb] at hc
              go_wp2_with fail
              go_quiet_grown (first | (go_at_call 50; refine Calls.grown_of (hc _ _)))
              have hbx5 : Below wo.heap.size wo (grow (wr.drewN nq) osq) := hQ nq osq
              have hown5 := ownsRow_below hown (below_grown (n := nq) (os := osq) (Below.refl _ wr) (Nat.le_refl _))
              obtain ⟨d0, d1, d2⟩ := HEc.out _ hbx5
              have z5 := hbx5.size
              clear q0 q1 q2 r0 r1 r2 hc hQ hown
              generalize grow (wr.drewN nq) osq = w5 at *
              have hNj : N.length ≤ 1000000 := by omega
              have hNe : (N ++ [e]).length = N.length + 1 := by simp
              go_wp2_with (first | (at_builtin; (refine wpList_append_own _ rfl _ _ 30 rfl wo.heap.size 50 i0 (.agg #[.int .i64 0, .int .i64 0, .string ⟨#[]⟩]) 3 32 Try.underlying30 hi hz0 hz1 hz2 rfl (by decide) _ _ _ rfl (hown6.alloc _) ⟨w6.heap.size, 0, none⟩ 1 1 [.int .i64 x.fr, .int .i64 x.to, .string x.text] rfl rfl (new_three _ _ _ _ _) (one_cells x) (by unfold maxLen; simp at *; omega) (by simp at *; omega) (by simp; omega) ?_); intro v7 w7 hown7 hgrow7 _) | (at_builtin; (refine wpList_append_own _ rfl _ _ 30 rfl wo.heap.size 50 i0 (.agg #[.int .i64 0, .int .i64 0, .string ⟨#[]⟩]) 3 32 Try.underlying30 hi hz0 hz1 hz2 rfl (by decide) _ _ _ rfl (hown5.alloc _) ⟨w5.heap.size, 0, none⟩ 1 1 [.int .i64 e.fr, .int .i64 e.to, .string e.text] rfl rfl (new_three _ _ _ _ _) (one_cells e) (by unfold maxLen; simp at *; omega) (by simp at *; omega) (by simp; omega) ?_); intro v6 w6 hown6p hgrow6 _; have hown6 := own_snoc hown6p; have hb6 := (hbx5.alloc (by omega) (.cells #[.int .i64 e.fr, .int .i64 e.to, .string e.text] 50)).grown hgrow6 (by simp; omega) (fun kk hk => (ownsRow_lt (hown5.alloc (.cells #[.int .i64 e.fr, .int .i64 e.to, .string e.text] 50)) hk).1); obtain ⟨d0', d1', d2'⟩ := HSc.out _ hb6; have z6 := hb6.size))
              go_roundw
              case rel =>
                refine ⟨j + 1, true, (N ++ [e]) ++ [x], by omega, by go_num, rfl, own_snoc hown7, (hb6.alloc (by omega) _).grown hgrow7 (by simp; omega) (fun kk hk => (ownsRow_lt (hown6.alloc (.cells #[.int .i64 x.fr, .int .i64 x.to, .string x.text] 50)) hk).1), by
                  have hNj2 : N.length ≤ j := by
                    rcases HN.out with ⟨_, h2, _⟩ | ⟨h1, _⟩
                    · rw [h2]; simp; omega
                    · cases h1
                  simp; omega, ?_⟩
                rcases HN.out with ⟨_, h2, h3⟩ | ⟨h1, _⟩
                · exact .inr ⟨rfl, by rw [h2]; exact ins_step_true (T := []) HJS.out HX.out h3 hlb⟩
                · cases h1
              case measure => simp [RowKit.intOf]; omega
          · go_wp2_with fail
            go_quiet (fail)
            have hbx5 : Below wo.heap.size wo (wr.drewN nq) := below_drewN hbx
            have hown5 : (wr.drewN nq).ownsRow wo.heap.size 50 3 u5 N.length (editCells N) := hown
            obtain ⟨d0, d1, d2⟩ := HSc.out _ hbx5
            have z5 := hbx5.size
            clear hown
            generalize wr.drewN nq = w5 at *
            have hNj : N.length ≤ 1000000 := by omega
            go_wp2_with (at_builtin; (refine wpList_append_own _ rfl _ _ 30 rfl wo.heap.size 50 i0 (.agg #[.int .i64 0, .int .i64 0, .string ⟨#[]⟩]) 3 32 Try.underlying30 hi hz0 hz1 hz2 rfl (by decide) _ _ _ rfl (hown5.alloc _) ⟨w5.heap.size, 0, none⟩ 1 1 [.int .i64 x.fr, .int .i64 x.to, .string x.text] rfl rfl (new_three _ _ _ _ _) (one_cells x) (by unfold maxLen; simp at *; omega) (by simp at *; omega) (by simp; omega) ?_); intro v6 w6 hown6 hgrow6 _)
            go_roundw
            case rel =>
              refine ⟨j + 1, true, N ++ [x], by omega, by go_num, rfl, own_snoc hown6, (hbx5.alloc (by omega) _).grown hgrow6 (by simp; omega) (fun kk hk => (ownsRow_lt (hown5.alloc (.cells #[.int .i64 x.fr, .int .i64 x.to, .string x.text] 50)) hk).1), by simp; omega, ?_⟩
              rcases HN.out with ⟨h1, _⟩ | ⟨_, h2⟩
              · cases h1
              · exact .inr ⟨rfl, by rw [← h2, List.drop_eq_getElem_cons HJS.out, HX.out]; simp⟩
            case measure => simp [RowKit.intOf]; omega
        · obtain rfl : j = k := by omega
          obtain ⟨d0, d1, d2⟩ := HEc.out _ hbx
          have hNj : N.length ≤ 1000001 := by omega
          cases b
          · go_wp2_with (at_builtin; (refine wpList_append_own _ rfl _ _ 30 rfl wo.heap.size 50 i0 (.agg #[.int .i64 0, .int .i64 0, .string ⟨#[]⟩]) 3 32 Try.underlying30 hi hz0 hz1 hz2 rfl (by decide) _ _ _ rfl (hown.alloc _) ⟨wr.heap.size, 0, none⟩ 1 1 [.int .i64 e.fr, .int .i64 e.to, .string e.text] rfl rfl (new_three _ _ _ _ _) (one_cells e) (by unfold maxLen; simp at *; omega) (by simp at *; omega) (by simp; omega) ?_); intro v6 w6 hown6 hgrow6 _)
            have hown7 := own_snoc hown6
            obtain ⟨a6, c6, rfl, hE6⟩ := editsIn_of_owns hown7
            have HNN : RowKit.Hid (N ++ [e] = ss ltE (l.take (j + 1))) := by
              show _ = _
              rcases HN.out with ⟨_, h2, h3⟩ | ⟨h1, _⟩
              · rw [HSN.out, h3, h2, List.drop_of_length_le (by rw [HSL.out]; exact Nat.le_refl _)]; rfl
              · cases h1
            have hl6 : (N ++ [e]).length = j + 1 := by rw [HNN.out, ss_length]; simp; omega
            have HL6 := Lib.hid hl6
            rw [hl6] at hE6 ⊢
            clear hl6
            go_roundw
            case rel => exact ⟨j + 1, a6, c6, by omega, by go_num, rfl, by rw [← HNN.out, HL6.out]; exact hE6, hbw.trans (((hbx.alloc (by omega) _).grown hgrow6 (by simp; omega) (fun kk hk => (ownsRow_lt (hown.alloc (.cells #[.int .i64 e.fr, .int .i64 e.to, .string e.text] 50)) hk).1)).mono (by omega))⟩
            case measure => simp [RowKit.intOf]; omega
          · obtain ⟨a6, c6, rfl, hE6⟩ := editsIn_of_owns hown
            have HNN : RowKit.Hid (N = ss ltE (l.take (j + 1))) := by
              show _ = _
              rcases HN.out with ⟨h1, _⟩ | ⟨_, h2⟩
              · cases h1
              · rw [HSN.out, ← h2, List.drop_of_length_le (by rw [HSL.out]; exact Nat.le_refl _), List.append_nil]
            have hl6 : N.length = j + 1 := by rw [HNN.out, ss_length]; simp; omega
            have HL6 := Lib.hid hl6
            rw [hl6] at hE6 ⊢
            clear hl6
            go_wp2_with fail
            go_roundw
            case rel => exact ⟨j + 1, a6, c6, by omega, by go_num, rfl, by rw [← HNN.out, HL6.out]; exact hE6, hbw.trans (hbx.mono (by omega))⟩
            case measure => simp [RowKit.intOf]; omega
    · obtain rfl : k = l.length := by omega
      rw [List.take_length, ss_length] at hS
      go_wp2
      go_ret
      exact ⟨⟨_, _, rfl, hS⟩, hbw⟩
end Go.Proofs.Ytkhpoeolnhfflaa
