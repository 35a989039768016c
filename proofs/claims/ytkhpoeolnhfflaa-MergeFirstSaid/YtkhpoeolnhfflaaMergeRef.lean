/-
  stetref24.Clash and stetref24.Choose. Conditions: at most 1000 findings, 1000000 edits of each.
-/
import Derived.Test.YtkhpoeolnhfflaaMergeChoose
import Derived.Test.YtkhpoeolnhfflaaRefSort
set_option linter.unusedSimpArgs false
set_option linter.unusedVariables false
namespace Go.Proofs.Ytkhpoeolnhfflaa
open Go.Shelf Go.RowKit Go.Lib Go.Sort

/-- A world that has only got new blocks. -/
def Grew (w wr : World) : Prop := ∃ os, wr = grow w os
theorem Grew.refl (w : World) : Grew w w := ⟨#[], by simp [grow]⟩
theorem Grew.alloc {w wr : World} (h : Grew w wr) (o : Obj) : Grew w (wr.alloc o) := by
  obtain ⟨os, rfl⟩ := h
  exact ⟨os ++ #[o], by rw [alloc_eq_grow, grow_grow]⟩
theorem Grew.below {w wr : World} (h : Grew w wr) : Below w.heap.size w wr := by
  obtain ⟨os, rfl⟩ := h
  exact below_grown (n := 0) (Below.refl _ w) (Nat.le_refl _)
theorem Grew.fin {w wr : World} (h : Grew w wr) : ∃ q os, wr = grow (w.drewN q) os := by
  obtain ⟨os, rfl⟩ := h
  exact ⟨0, os, rfl⟩

theorem clash_none {a b : List EditP} (h : ∀ x ∈ a, ∀ y ∈ b, clash1 x y = false) : clashP a b = false := by
  unfold clashP
  rw [List.any_eq_false]
  intro x hx
  rw [Bool.not_eq_true, List.any_eq_false]
  intro y hy
  rw [Bool.not_eq_true]
  exact h x hx y hy
theorem clash_some {a b : List EditP} {x y : EditP} (hx : x ∈ a) (hy : y ∈ b) (h : clash1 x y = true) : clashP a b = true := by
  unfold clashP
  exact List.any_eq_true.2 ⟨x, hx, List.any_eq_true.2 ⟨y, hy, h⟩⟩
theorem take_all {α : Type} {p : α → Prop} {l : List α} {k : Nat} (hk : k < l.length) (h : ∀ x ∈ l.take k, p x) (hx : p l[k]) : ∀ x ∈ l.take (k + 1), p x := by
  intro x hm
  rw [List.take_succ_eq_append_getElem hk] at hm
  rcases List.mem_append.1 hm with hm | hm
  · exact h x hm
  · rw [List.mem_singleton.1 hm]; exact hx

theorem any_step_false {p q : Bool} (h : false = !p) : false = !(p || q) := by cases p <;> simp_all
theorem any_step_true {p q : Bool} (h : true = !p) : (!q) = !(p || q) := by cases p <;> simp_all

set_option maxHeartbeats 8000000 in
set_option maxRecDepth 100000 in
theorem refClash_any (aa ab : Option Addr) (ca cb : Nat) (a b : List EditP) (ha : a.length ≤ 1000000) (hb : b.length ≤ 1000000) (w : World) (hA : EditsIn w.heap.size w (.slice aa a.length ca) a) (hB : EditsIn w.heap.size w (.slice ab b.length cb) b) :
    Calls Try.prog 26 #[.slice aa a.length ca, .slice ab b.length cb] w fun e w' => e = .returned (.bool (clashP a b)) ∧ ∃ q os, w' = grow (w.drewN q) os := by
  have HA := Lib.hid hA
  have HB := Lib.hid hB
  have mixed : Try.prog.follows Departure.mixedOrders = true := rfl
  clear hA hB
  go_enter Try.func26, Try.ntmps26
  go_wp2
  go_loopw [5, 6] (fun iv _ wr => ∃ i : Nat, i ≤ a.length ∧ iv = .int .i64 i ∧ Grew w wr ∧ RowKit.Hid (∀ x ∈ a.take i, ∀ y ∈ b, clash1 x y = false)) (fun iv _ _ => a.length - (RowKit.intOf iv).toNat)
  case atStart => exact ⟨0, Nat.zero_le _, rfl, Grew.refl _, (fun x hx => by simp at hx)⟩
  case round =>
    obtain ⟨i, hi, rfl, hgr, HN⟩ := hrel
    rename World => wo
    by_cases hlt : i < a.length
    · have hlt' : (i : Int) < (a.length : Int) := by omega
      have HT : RowKit.Hid ((∀ y ∈ b, clash1 a[i] y = false) → ∀ x ∈ a.take (i + 1), ∀ y ∈ b, clash1 x y = false) := fun h => take_all hlt HN.out h
      have HY : RowKit.Hid (∀ y ∈ b, clash1 a[i] y = true → clashP a b = true) := fun y hy h => clash_some (List.getElem_mem hlt) hy h
      have HXA : RowKit.Hid (∃ g off, aa = some ⟨g, off, none⟩ ∧ g < w.heap.size ∧ EditAt w g (off + i * 3) a[i]) := by
        obtain ⟨g, off, e, hg, -, hc⟩ := HA.out.at hlt
        exact ⟨g, off, e, hg, hc i hlt⟩
      generalize a[i] = x at *
      obtain ⟨gx, ox, rfl, hgx, hxc⟩ := HXA.out
      obtain ⟨x0, x1, x2⟩ := x
      have HXC := Lib.hid hxc
      clear hxc HXA HN
      go_wp2_with fail
      go_loopw [6] (fun kv wr => ∃ k : Nat, k ≤ b.length ∧ kv = .int .i64 k ∧ Grew w wr ∧ RowKit.Hid (∀ y ∈ b.take k, clash1 ⟨x0, x1, x2⟩ y = false)) (fun kv _ => b.length - (RowKit.intOf kv).toNat)
      case atStart => exact ⟨0, Nat.zero_le _, rfl, hgr, (fun x hx => by simp at hx)⟩
      case round =>
        clear hgr
        obtain ⟨k, hk, rfl, hgr, HN⟩ := hrel
        have hbw := hgr.below
        have zw := hbw.size
        by_cases hkl : k < b.length
        · have hkl' : (k : Int) < (b.length : Int) := by omega
          obtain ⟨d0, d1, d2⟩ := HXC.out
          simp only at d0 d1 d2
          rw [← hbw.cell (p := ⟨gx, _, none⟩) hgx] at d0 d1 d2
          have HT2 : RowKit.Hid (clash1 ⟨x0, x1, x2⟩ b[k] = false → ∀ y ∈ b.take (k + 1), clash1 ⟨x0, x1, x2⟩ y = false) := fun h => take_all hkl HN.out h
          have HY2 : RowKit.Hid (clash1 ⟨x0, x1, x2⟩ b[k] = true → clashP a b = true) := HY.out _ (List.getElem_mem hkl)
          obtain ⟨gy, oy, rfl, hgy, -, hyc⟩ := (HB.out.below hbw).at hkl
          obtain ⟨c0, c1, c2⟩ := hyc k hkl
          clear hyc
          generalize b[k] = y at *
          obtain ⟨y0, y1, y2⟩ := y
          simp only at c0 c1 c2
          have hcl : clash1 ⟨x0, x1, x2⟩ ⟨y0, y1, y2⟩ = ((decide (y0 < x1) && decide (x0 < y1)) || ((x0 == y0) && (x1 == y1))) := rfl
          rw [hcl] at HT2 HY2
          have hG2 := (hgr.alloc (.cells #[.int .i64 x0, .int .i64 x1, .string x2] 50)).alloc (.cells #[.int .i64 y0, .int .i64 y1, .string y2] 50)
          have HG2 := Lib.hid hG2
          have hNB : Below wr.heap.size wr (wr.alloc (.cells #[.int .i64 x0, .int .i64 x1, .string x2] 50)) := (Below.refl _ wr).alloc (Nat.le_refl _) _
          have n0 := (hNB.cell (p := ⟨gy, _, none⟩) (show gy < wr.heap.size by omega)).trans c0
          have n1 := (hNB.cell (p := ⟨gy, _, none⟩) (show gy < wr.heap.size by omega)).trans c1
          have n2 := (hNB.cell (p := ⟨gy, _, none⟩) (show gy < wr.heap.size by omega)).trans c2
          clear hG2 hcl HN hNB
          cases hB0 : decide (y0 < x1) <;> cases hB1 : decide (x0 < y1) <;> cases hB2 : (x0 == y0) <;> cases hB3 : (x1 == y1) <;> rw [hB0, hB1, hB2, hB3] at HT2 HY2 <;>
            (first | have h0 := of_decide_eq_true hB0 | have h0 := of_decide_eq_false hB0) <;> (first | have h1 := of_decide_eq_true hB1 | have h1 := of_decide_eq_false hB1) <;>
            first
              | (exfalso; have e2 := eq_of_beq hB2; have e3 := eq_of_beq hB3; omega)
              | (have HR := Lib.hid (HY2.out rfl); go_wp2_with fail; go_ret; exact ⟨by rw [HR.out]; rfl, HG2.out.fin⟩)
              | (have HR := Lib.hid (HT2.out rfl); go_wp2_with fail; go_roundw
                 case rel => exact ⟨k + 1, by omega, by go_num, HG2.out, HR.out⟩
                 case measure => simp [RowKit.intOf]; omega)
        · obtain rfl : k = b.length := by omega
          rw [List.take_length] at HN
          have HR := Lib.hid (HT.out HN.out)
          go_wp2_with fail
          go_roundw
          case rel => exact ⟨i + 1, by omega, by go_num, hgr, HR.out⟩
          case measure => simp [RowKit.intOf]; omega
    · obtain rfl : i = a.length := by omega
      rw [List.take_length] at HN
      have HR := Lib.hid (clash_none HN.out)
      go_wp2_with fail
      go_ret
      exact ⟨by rw [HR.out]; rfl, hgr.fin⟩

/-- What the reference chooses. -/
def refF (l : List FindP) : List FindP → Nat → List Int → List Int
  | [], _, ch => ch
  | f :: t, i, ch => if ch.any (fun c => clashP f.edits l[c.toNat]!.edits) then refF l t (i + 1) ch else refF l t (i + 1) (ch ++ [(i : Int)])
theorem clashP_append (a b c : List EditP) : clashP a (b ++ c) = (clashP a b || clashP a c) := by
  unfold clashP
  induction a with
  | nil => rfl
  | cons x t ih =>
    simp only [List.any_cons, List.any_append] at ih ⊢
    rw [ih]
    cases (b.any fun y => clash1 x y) <;> cases (c.any fun y => clash1 x y) <;> simp
theorem refF_choose (l : List FindP) : ∀ (t : List FindP) (i : Nat) (ch : List Int) (tk : List EditP), (∀ j (h : j < t.length), i + j < l.length ∧ l[i + j]! = t[j]) → (∀ a : List EditP, clashP a tk = ch.any fun c => clashP a l[c.toNat]!.edits) → refF l t i ch = (chooseF t i ch tk).1
  | [], _, _, _, _, _ => rfl
  | f :: t, i, ch, tk, hl, hc => by
    rw [refF, chooseF, ← hc]
    have hl' : ∀ j (h : j < t.length), i + 1 + j < l.length ∧ l[i + 1 + j]! = t[j] := fun j h => by
      have := hl (j + 1) (by simpa using h)
      rw [show i + 1 + j = i + (j + 1) by omega]
      simpa using this
    have h0 := (hl 0 (by simp)).2
    split
    · exact refF_choose l t (i + 1) ch tk hl' hc
    · refine refF_choose l t (i + 1) _ _ hl' fun a => ?_
      rw [clashP_append, List.any_append, hc]
      simp only [List.any_cons, List.any_nil, Bool.or_false, Int.toNat_natCast]
      rw [show l[i]! = f by simpa using h0]
theorem refF_is (l : List FindP) : refF l l 0 [] = chooseP l := refF_choose l l 0 [] [] (fun j h => ⟨by omega, by simp [h]⟩) (fun a => by unfold clashP; induction a <;> simp_all)

set_option maxHeartbeats 8000000 in
set_option maxRecDepth 100000 in
theorem refChoose_any (a : Option Addr) (cap : Nat) (l : List FindP) (hl : l.length ≤ 1000) (he : ∀ f ∈ l, f.edits.length ≤ 1000000) (w : World) (hI : FindsIn w.heap.size w (.slice a l.length cap) l) :
    Calls Try.prog 18 #[.slice a l.length cap] w fun e w' => (∃ a' cap', e = .returned (.slice a' (chooseP l).length cap') ∧ IntsIn w'.heap.size w' (.slice a' (chooseP l).length cap') (chooseP l)) ∧ Below w.heap.size w w' := by
  have HI := Lib.hid hI
  have HE := Lib.hid he
  have mixed : Try.prog.follows Departure.mixedOrders = true := rfl
  have hN : Below w.heap.size w (w.alloc (.cells #[] 3)) := (Below.refl _ w).alloc (Nat.le_refl _) _
  have hown : (w.alloc (.cells #[] 3)).ownsRow w.heap.size 3 1 (.slice (some ⟨w.heap.size, 0, none⟩) 0 0) ([] : List Int).length (intCells []) := ⟨rfl, .inr ⟨w.heap.size, 0, #[], rfl, Nat.le_refl _, heap_alloc_new w _, Nat.le_refl _, by decide, rfl, rfl⟩⟩
  have HRF := Lib.hid (refF_is l)
  clear hI he
  go_enter Try.func18, Try.ntmps18
  go_wp2
  go_loopw [3, 4, 5, 6] (fun ov iv _ _ wr => ∃ (i : Nat) (ch : List Int), i ≤ l.length ∧ iv = .int .i64 i ∧ wr.ownsRow w.heap.size 3 1 ov ch.length (intCells ch) ∧ Below w.heap.size w wr ∧ ch.length ≤ i ∧ RowKit.Hid (∀ c ∈ ch, 0 ≤ c ∧ c < l.length) ∧ RowKit.Hid (refF l (l.drop i) i ch = refF l l 0 [])) (fun _ iv _ _ _ => l.length - (RowKit.intOf iv).toNat)
  case atStart => exact ⟨0, [], Nat.zero_le _, rfl, hown, hN, Nat.le_refl _, (fun c hc => by cases hc), rfl⟩
  case round =>
    clear hN hown
    obtain ⟨i, ch, hi, rfl, hoC, hbw, hcl, HCH, HF⟩ := hrel
    rename World => wo
    have zw := hbw.size
    obtain ⟨aC, cC, rfl, -⟩ := ownsRow_slice hoC
    by_cases hlt : i < l.length
    · have hlt' : (i : Int) < (l.length : Int) := by omega
      have HSTEP : RowKit.Hid (refF l (l.drop i) i ch = if ch.any (fun c => clashP l[i].edits l[c.toNat]!.edits) then refF l (l.drop (i + 1)) (i + 1) ch else refF l (l.drop (i + 1)) (i + 1) (ch ++ [(i : Int)])) := by
        show _ = _
        rw [List.drop_eq_getElem_cons hlt, refF]
      have hIw := HI.out.below hbw
      have HIO : RowKit.Hid (∃ g off, a = some ⟨g, off, none⟩ ∧ g < w.heap.size ∧ ∀ j (h : j < l.length), FindAt w.heap.size wo g (off + j * 4) l[j]) := by
        obtain ⟨g, off, e, hg, -, hc⟩ := hIw.at hlt
        exact ⟨g, off, e, hg, hc⟩
      obtain ⟨g, off, rfl, hg, hfc⟩ := HIO.out
      have HFC := Lib.hid hfc
      have HO := Lib.hid hoC
      clear hIw HIO hfc hoC
      go_wp2_with fail
      go_loopw [5, 6] (fun bv kv wr => ∃ (k : Nat) (b : Bool), k ≤ ch.length ∧ kv = .int .i64 k ∧ bv = .bool b ∧ Below wo.heap.size wo wr ∧ RowKit.Hid (b = !((ch.take k).any fun c => clashP l[i].edits l[c.toNat]!.edits))) (fun _ kv _ => ch.length - (RowKit.intOf kv).toNat)
      case atStart => exact ⟨0, true, Nat.zero_le _, rfl, rfl, Below.refl _ _, rfl⟩
      case round =>
        obtain ⟨k, b, hk, rfl, rfl, hbx, HB⟩ := hrel
        have zx := hbx.size
        by_cases hkl : k < ch.length
        · have hkl' : (k : Int) < (ch.length : Int) := by omega
          have HST2 : RowKit.Hid (((ch.take (k + 1)).any fun c => clashP l[i].edits l[c.toNat]!.edits) = (((ch.take k).any fun c => clashP l[i].edits l[c.toNat]!.edits) || clashP l[i].edits l[ch[k].toNat]!.edits)) := by
            show _ = _
            rw [List.take_succ_eq_append_getElem hkl, List.any_append]; simp
          cases b
          · have HB2 : RowKit.Hid (false = !((ch.take (k + 1)).any fun c => clashP l[i].edits l[c.toNat]!.edits)) := by
              show _ = _
              rw [HST2.out]
              exact any_step_false HB.out
            go_wp2_with fail
            go_quiet (fail)
            go_wp2_with fail
            go_roundw
            case rel => exact ⟨k + 1, false, by omega, by go_num, rfl, below_drewN hbx, HB2.out⟩
            case measure => simp [RowKit.intOf]; omega
          · have hck := HCH.out ch[k] (List.getElem_mem hkl)
            have HOC := Lib.hid (ownsRow_below HO.out hbx)
            obtain ⟨gC, offC, rfl, hgC, -, hic⟩ := (intsIn_of_owns HO.out).at hkl
            have hv := hic k hkl
            clear hic
            generalize hcv : ch[k] = cv at *
            obtain ⟨m, rfl⟩ : ∃ m : Nat, cv = m := ⟨cv.toNat, by omega⟩
            have hm : m < l.length := by omega
            have hmi : (m : Int) < (l.length : Int) := by omega
            obtain ⟨-, -, -, aE, cE, c3, hE⟩ := HFC.out i hlt
            obtain ⟨-, -, -, aF, cF, d3, hF⟩ := HFC.out m hm
            have he1 := HE.out l[i] (List.getElem_mem hlt)
            have he2 := HE.out l[m] (List.getElem_mem hm)
            have HV : RowKit.Hid (true = !((ch.take k).any fun c => clashP l[i].edits l[c.toNat]!.edits)) := HB
            have HB2 : RowKit.Hid ((!(clashP l[i].edits l[m].edits)) = !((ch.take (k + 1)).any fun c => clashP l[i].edits l[c.toNat]!.edits)) := by
              show _ = _
              rw [HST2.out]
              have h2 : l[(m : Int).toNat]! = l[m] := by simp [hm]
              rw [h2]
              exact any_step_true HV.out
            generalize hA1 : l[i].edits = A1 at *
            generalize hA2 : l[m].edits = A2 at *
            have hQ : ∀ (n : Nat) (os : Array Obj), Below wo.heap.size wo (grow (wr.drewN n) os) := fun n os => below_grown hbx (by omega)
            have q0 := fun n os => ((hQ n os).cell (p := ⟨gC, offC + k, none⟩) hgC).trans hv
            have q1 := fun n os => ((hQ n os).cell (p := ⟨g, off + i * 4 + 3, none⟩) (show g < _ by omega)).trans c3
            have q2 := fun n os => ((hQ n os).cell (p := ⟨g, off + m * 4 + 3, none⟩) (show g < _ by omega)).trans d3
            have hc := fun (n : Nat) (os : Array Obj) => refClash_any aE aF cE cF A1 A2 he1 he2 (grow (wr.drewN n) os) ((hE.below ((hQ n os).mono zw)).mono (by have := (hQ n os).size; omega)) ((hF.below ((hQ n os).mono zw)).mono (by have := (hQ n os).size; omega))
            have HQ := Lib.hid hQ
            clear hA1 hA2 hcv hv c3 d3 hE hF hck HV HST2 HB hQ
            go_wp2_with fail
            go_quiet_grown (first | (go_at_call 26; refine Calls.grown_of (hc _ _)))
            have hb5 := HQ.out nq osq
            clear q0 q1 q2 hc
            generalize grow (wr.drewN nq) osq = w5 at *
            go_wp2_with fail
            go_roundw
            case rel => exact ⟨k + 1, _, by omega, by go_num, rfl, hb5, HB2.out⟩
            case measure => simp [RowKit.intOf]; omega
        · obtain rfl : k = ch.length := by omega
          rw [List.take_length] at HB
          have hoC := ownsRow_below HO.out hbx
          have hB3 := hbw.trans (hbx.mono zw)
          cases b
          · have HS2 : RowKit.Hid (refF l (l.drop i) i ch = refF l (l.drop (i + 1)) (i + 1) ch) := by
              show _ = _
              rw [HSTEP.out, if_pos (by have := HB.out; simpa using this)]
            go_wp2_with fail
            go_roundw
            case rel => exact ⟨i + 1, ch, by omega, by go_num, hoC, hB3, by omega, HCH.out, HS2.out.symm.trans HF.out⟩
            case measure => simp [RowKit.intOf]; omega
          · have HS2 : RowKit.Hid (refF l (l.drop i) i ch = refF l (l.drop (i + 1)) (i + 1) (ch ++ [(i : Int)])) := by
              show _ = _
              rw [HSTEP.out, if_neg (by have := HB.out; simpa using this)]
            have hNa : IntsIn (wr.heap.size + 1) (wr.alloc (.cells #[.int .i64 (i : Int)] 3)) (.slice (some ⟨wr.heap.size, 0, none⟩) ([(i : Int)] : List Int).length 1) [(i : Int)] := intsIn_new wr i
            have hzr := hB3.size
            go_wp2_with (at_builtin; (refine wpList_append_ints rfl _ _ rfl w.heap.size _ ch rfl (hoC.alloc _) (some ⟨wr.heap.size, 0, none⟩) [(i : Int)] 1 rfl hNa (by omega) (by simp) (by simp; omega) ?_); intro v4 w4 hC4 hg4)
            have hB4 := below_own (hB3.alloc hzr (.cells #[.int .i64 (i : Int)] 3)) (by simp; omega) (hoC.alloc _) hg4
            have HC4 : RowKit.Hid (∀ c ∈ ch ++ [(i : Int)], 0 ≤ c ∧ c < l.length) := fun c hc => by
              rcases List.mem_append.1 hc with h | h
              · exact HCH.out c h
              · rw [List.mem_singleton.1 h]; omega
            go_roundw
            case rel => exact ⟨i + 1, ch ++ [(i : Int)], by omega, by go_num, hC4, hB4, by simp; omega, HC4.out, HS2.out.symm.trans HF.out⟩
            case measure => simp [RowKit.intOf]; omega
    · obtain rfl : i = l.length := by omega
      have HR : RowKit.Hid (chooseP l = ch) := by
        show _ = _
        rw [← HRF.out, ← HF.out, List.drop_length]; rfl
      have hres := intsIn_of_owns hoC
      go_wp2
      go_ret
      rw [HR.out]
      exact ⟨⟨_, _, rfl, hres⟩, hbw⟩
end Go.Proofs.Ytkhpoeolnhfflaa
