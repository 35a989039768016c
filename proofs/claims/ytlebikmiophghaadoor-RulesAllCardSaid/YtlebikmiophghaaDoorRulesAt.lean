/-
  What stands in memory behind rules.All; the search for a rule. Conditions: the two tables of unicode/utf8.
-/
import Derived.Test.YtlebikmiophghaaDoorRulesAll
import Derived.Test.YtlebikmiophghaaDoorRulesLow
namespace Go.Proofs.YtlebikmiophghaaDoor
open Go.RowKit Go.Lib

theorem allocs_size (w : World) (l : List Obj) : (allocs w l).heap.size = w.heap.size + l.length := by
  induction l generalizing w with
  | nil => rfl
  | cons o l ih =>
    show (allocs (w.alloc o) l).heap.size = _
    rw [ih, World.size_alloc, List.length_cons]; omega
theorem allocs_below (w : World) (l : List Obj) : Below w.heap.size w (allocs w l) := by
  induction l generalizing w with
  | nil => exact Below.refl _ _
  | cons o l ih =>
    show Below _ _ (allocs (w.alloc o) l)
    exact ((Below.refl _ w).alloc (Nat.le_refl _) o).trans ((ih (w.alloc o)).mono (by simp))
theorem allocs_get (w : World) (l : List Obj) : ∀ i (h : i < l.length), (allocs w l).heap[w.heap.size + i]? = some l[i] := by
  induction l generalizing w with
  | nil => intro i h; simp at h
  | cons o l ih =>
    intro i h
    show (allocs (w.alloc o) l).heap[w.heap.size + i]? = _
    cases i with
    | zero =>
      rw [(allocs_below (w.alloc o) l).block _ (by simp), Nat.add_zero]
      exact heap_alloc_new w o
    | succ i =>
      have := ih (w.alloc o) i (by simpa using h)
      rw [World.size_alloc] at this
      rw [show w.heap.size + (i + 1) = w.heap.size + 1 + i by omega]
      exact this

theorem flatten_get {α : Type} (n : Nat) (hn : 0 < n) : ∀ (l : List (List α)), (∀ x ∈ l, x.length = n) → ∀ i c, c < n → l.flatten[i * n + c]? = l[i]?.bind (·[c]?)
  | [], _, i, c, _ => by simp
  | x :: l, h, i, c, hc => by
    have hx := h x List.mem_cons_self
    cases i with
    | zero =>
      rw [List.flatten_cons, List.getElem?_append_left (by omega)]
      simp
    | succ i =>
      have e : (i + 1) * n + c = x.length + (i * n + c) := by rw [hx, Nat.add_mul]; omega
      rw [List.flatten_cons, e, List.getElem?_append_right (by omega), Nat.add_sub_cancel_left, flatten_get n hn l (fun y hy => h y (List.mem_cons_of_mem _ hy)) i c hc]
      simp

/-- A row holds the catalogue; its tags lie in blocks of their own. -/
structure RulesIn (w : World) (L g : Nat) : Prop where
  id : ∀ k (h : k < rulesT.length), w.cell? ⟨g, k * 4, none⟩ = some (strV rulesT[k].id)
  name : ∀ k (h : k < rulesT.length), w.cell? ⟨g, k * 4 + 1, none⟩ = some (strV rulesT[k].name)
  tags : ∀ k (h : k < rulesT.length), w.cell? ⟨g, k * 4 + 2, none⟩ = some (.slice (some ⟨L + k, 0, none⟩) rulesT[k].tags.length rulesT[k].tags.length)
  cls : ∀ k (h : k < rulesT.length), w.cell? ⟨g, k * 4 + 3, none⟩ = some (.int .i64 rulesT[k].cls)
  row : ∀ k (h : k < rulesT.length), w.heap[L + k]? = some (.cells (rulesT[k].tags.map strV).toArray 9)
  lg : g < w.heap.size
  lt : L + 40 ≤ w.heap.size
theorem RulesIn.below {w w' : World} {L g : Nat} (h : RulesIn w L g) (hb : Below w.heap.size w w') : RulesIn w' L g := by
  have z := hb.size
  have l1 := h.lg
  have l2 := h.lt
  have hl := rulesT_len
  refine ⟨fun k hk => ?_, fun k hk => ?_, fun k hk => ?_, fun k hk => ?_, fun k hk => ?_, by omega, by omega⟩
  · rw [hb.cell (p := ⟨g, k * 4, none⟩) l1]; exact h.id k hk
  · rw [hb.cell (p := ⟨g, k * 4 + 1, none⟩) l1]; exact h.name k hk
  · rw [hb.cell (p := ⟨g, k * 4 + 2, none⟩) l1]; exact h.tags k hk
  · rw [hb.cell (p := ⟨g, k * 4 + 3, none⟩) l1]; exact h.cls k hk
  · rw [hb.block (L + k) (by omega)]; exact h.row k hk
theorem ruleVals_len (L : Nat) : (ruleVals L).length = 40 := by
  unfold ruleVals; rw [List.length_map, List.length_zipIdx, rulesT_len]
theorem ruleVals_get (L k : Nat) (h : k < rulesT.length) : (ruleVals L)[k]? = some [strV rulesT[k].id, strV rulesT[k].name, .slice (some ⟨L + k, 0, none⟩) rulesT[k].tags.length rulesT[k].tags.length, .int .i64 rulesT[k].cls] := by
  unfold ruleVals
  rw [List.getElem?_map, List.getElem?_zipIdx, List.getElem?_eq_getElem h]
  simp
theorem ruleCells_get (L k c : Nat) (hc : c < 4) : (ruleCells L)[k * 4 + c]? = (ruleVals L)[k]?.bind (·[c]?) := by
  unfold ruleCells
  rw [List.getElem?_toArray]
  refine flatten_get 4 (by omega) (ruleVals L) (fun x hx => ?_) k c hc
  unfold ruleVals at hx
  obtain ⟨p, _, rfl⟩ := List.mem_map.1 hx
  rfl
theorem rulesIn_all (w : World) : RulesIn ((allocs w tagObjs).alloc (.cells (ruleCells w.heap.size) 57)) w.heap.size (allocs w tagObjs).heap.size ∧ Below w.heap.size w ((allocs w tagObjs).alloc (.cells (ruleCells w.heap.size) 57)) := by
  have htl : tagObjs.length = 40 := by unfold tagObjs; rw [List.length_map, rulesT_len]
  have hs := allocs_size w tagObjs
  have hb := allocs_below w tagObjs
  rw [htl] at hs
  have hl := rulesT_len
  have cell : ∀ k c (h : k < rulesT.length) (hc : c < 4), ((allocs w tagObjs).alloc (.cells (ruleCells w.heap.size) 57)).cell? ⟨(allocs w tagObjs).heap.size, k * 4 + c, none⟩ = (ruleVals w.heap.size)[k]?.bind (·[c]?) := by
    intro k c h hc
    rw [World.cell?_alloc_new, ruleCells_get _ _ _ hc]
  refine ⟨⟨fun k h => ?_, fun k h => ?_, fun k h => ?_, fun k h => ?_, fun k h => ?_, by simp, by simp; omega⟩, hb.alloc (by omega) _⟩
  · have := cell k 0 h (by omega)
    rw [ruleVals_get _ _ h] at this; exact this
  · have := cell k 1 h (by omega)
    rw [ruleVals_get _ _ h] at this; exact this
  · have := cell k 2 h (by omega)
    rw [ruleVals_get _ _ h] at this; exact this
  · have := cell k 3 h (by omega)
    rw [ruleVals_get _ _ h] at this; exact this
  · rw [Below.heap_alloc _ _ _ (by omega), allocs_get w tagObjs k (by omega)]
    unfold tagObjs
    rw [List.getElem_map]

set_option maxHeartbeats 4000000 in
set_option maxRecDepth 100000 in
theorem find1_any (wd : ByteArray) (hwd : wd.size ≤ 1000000) (k : Nat) (hk : k < rulesT.length) (L B : Nat) (w : World) (hT : Tabs w) (hB : w.cell? ⟨B, 0, none⟩ = some (.string wd)) (hBl : B < w.heap.size) :
    Calls Tryd.prog 46 #[.agg #[strV rulesT[k].id, strV rulesT[k].name, .slice (some ⟨L + k, 0, none⟩) rulesT[k].tags.length rulesT[k].tags.length, .int .i64 rulesT[k].cls], .pointer (some ⟨B, 0, none⟩)] w fun e w' => e = .returned (.bool (hitB wd.data.toList rulesT[k])) ∧ Below w.heap.size w w' := by
  obtain ⟨f1, f2, _, _, _, f6, f7, _, _⟩ := rule_facts _ (List.getElem_mem hk)
  have k1 := fun w hT => same_any _ f1 (by omega) wd hwd w hT
  have k2 := fun w hT => same_any _ f2 (by omega) wd hwd w hT
  have hN : Below w.heap.size w (w.alloc (.cells #[strV rulesT[k].id, strV rulesT[k].name, .slice (some ⟨L + k, 0, none⟩) rulesT[k].tags.length rulesT[k].tags.length, .int .i64 rulesT[k].cls] 57)) := (Below.refl _ w).alloc (Nat.le_refl _) _
  have hn := heap_alloc_new w (.cells #[strV rulesT[k].id, strV rulesT[k].name, .slice (some ⟨L + k, 0, none⟩) rulesT[k].tags.length rulesT[k].tags.length, .int .i64 rulesT[k].cls] 57)
  have zN : (w.alloc (.cells #[strV rulesT[k].id, strV rulesT[k].name, .slice (some ⟨L + k, 0, none⟩) rulesT[k].tags.length rulesT[k].tags.length, .int .i64 rulesT[k].cls] 57)).heap.size = w.heap.size + 1 := by simp
  have hTn := hT.below hN
  have cB := hB
  rw [← hN.cell (p := ⟨B, 0, none⟩) hBl] at cB
  unfold hitB
  unfold strV at *
  generalize rulesT[k].id = a1 at *
  generalize rulesT[k].name = a2 at *
  generalize rulesT[k].tags.length = tl at *
  generalize rulesT[k].cls = cl at *
  go_enter Tryd.func46, Tryd.ntmps46
  go_wp2_with fail
  refine (k1 _ hTn).mono ?_
  rintro e w1 ⟨rfl, b1⟩
  have z1 := b1.size
  have cB1 := cB
  rw [← b1.cell (p := ⟨B, 0, none⟩) (by show B < _; omega)] at cB1
  have cN : w1.cell? ⟨w.heap.size, 1, none⟩ = some (.string ⟨a2.toArray⟩) := by
    simp [World.cell?, (b1.block w.heap.size (by omega)).trans hn]
  cases hs : sameW a1 wd.data.toList
  · go_wp2_with fail
    refine (k2 _ (hTn.below b1)).mono ?_
    rintro e w2 ⟨rfl, b2⟩
    go_wp2_with fail
    go_ret
    exact ⟨ret_bool (by simp [hs]), hN.trans ((b1.mono (by omega)).trans (b2.mono (by omega)))⟩
  · go_wp2_with fail
    go_ret
    exact ⟨ret_bool (by simp [hs]), hN.trans (b1.mono (by omega))⟩

set_option maxHeartbeats 4000000 in
set_option maxRecDepth 100000 in
theorem index_rules (wd : ByteArray) (hwd : wd.size ≤ 1000000) (L g B : Nat) (w : World) (hT : Tabs w) (hR : RulesIn w L g) (hB : w.cell? ⟨B, 0, none⟩ = some (.string wd)) (hBl : B < w.heap.size) :
    Calls Tryd.prog 45 #[.slice (some ⟨g, 0, none⟩) 40 40, .func (.func 46) #[] #[.pointer (some ⟨B, 0, none⟩)]] w fun e w' => e = .returned (.int .i64 (findP wd.data.toList)) ∧ Below w.heap.size w w' := by
  have HR := Lib.hid hR
  have hl := rulesT_len
  clear hR
  go_enter Tryd.func45, Tryd.ntmps45
  go_wp2
  go_loopw [5, 8] (fun _ iv wr => ∃ k : Nat, k ≤ 40 ∧ iv = .int .i64 k ∧ Below w.heap.size w wr ∧ RowKit.Hid (findP wd.data.toList = firstHit wd.data.toList k (rulesT.drop k))) (fun _ iv _ => 40 - (RowKit.intOf iv).toNat)
  case atStart => exact ⟨0, Nat.zero_le _, rfl, Below.refl _ _, Lib.hid rfl⟩
  case round =>
    obtain ⟨k, hk, rfl, hbw, HI⟩ := hrel
    have zr := hbw.size
    by_cases hlt : k < 40
    · have hkl : k < rulesT.length := by omega
      have hRk := HR.out.below hbw
      have c0 := hRk.id k hkl
      have c1 := hRk.name k hkl
      have c2 := hRk.tags k hkl
      have c3 := hRk.cls k hkl
      have cB := hB
      rw [← hbw.cell (p := ⟨B, 0, none⟩) hBl] at cB
      have kf := find1_any wd hwd k hkl L B wr (hT.below hbw) cB (by omega)
      have HD := Lib.hid (firstHit_drop wd.data.toList k hkl)
      clear hRk
      generalize rulesT[k] = r at *
      go_wp2_with fail
      refine kf.mono ?_
      rintro e w1 ⟨rfl, b1⟩
      cases hh : hitB wd.data.toList r
      · go_wp2_with fail
        go_roundw
        case rel =>
          refine ⟨k + 1, by omega, by go_num, hbw.trans (b1.mono zr), Lib.hid ?_⟩
          rw [HI.out, HD.out, hh]; rfl
        case measure => simp [RowKit.intOf]; omega
      · go_wp2_with fail
        go_ret
        refine ⟨ret_int ?_, hbw.trans (b1.mono zr)⟩
        rw [HI.out, HD.out, hh]; rfl
    · obtain rfl : k = 40 := by omega
      go_wp2_with fail
      go_ret
      refine ⟨ret_int ?_, hbw⟩
      rw [HI.out, List.drop_of_length_le (by omega)]; rfl
end Go.Proofs.YtlebikmiophghaaDoor
