/-
  stetref18.All: the document's catalogue, in new memory. Conditions: none.
-/
import Derived.Test.YtlebikmiophghaaDoorRefWords
import Derived.Test.YtlebikmiophghaaDoorLit
import Derived.Deep.RegionLaw
namespace Go.Proofs.YtlebikmiophghaaDoor
open Go.RowKit Go.Lib

def lineL (r : RuleP) : List UInt8 := r.id ++ 32 :: (r.name ++ r.tags.flatMap fun t => 32 :: t)
theorem lines_good : (rulesT.all fun r => (splitGo [] (lineL r) == r.id :: r.name :: r.tags) && decide ((lineL r).length ≤ 1000)) = true := by decide +kernel
theorem line_split (r : RuleP) (h : r ∈ rulesT) : splitGo [] (lineL r) = r.id :: r.name :: r.tags ∧ (lineL r).length ≤ 1000 := by
  have := List.all_eq_true.1 lines_good r h
  simp only [Bool.and_eq_true, beq_iff_eq, decide_eq_true_eq] at this
  exact this
def lineVals : Array Value := (rulesT.map fun r => strV (lineL r)).toArray
def clsVals : Array Value := (rulesT.map fun r => Value.int .i64 r.cls).toArray
def lineParts : Array (Nat × Operand) := (rulesT.zipIdx.map fun p => (p.2, Operand.const (strV (lineL p.1)))).toArray
def clsParts : Array (Nat × Operand) := (rulesT.zipIdx.map fun p => (p.2, Operand.const (.int .i64 p.1.cls))).toArray
theorem build_lines (a : Act) (w : World) : (Instr.build 85 (lineParts.map fun (i, x) => (i, a.eval x))).run Tryd.prog w = .ok (.agg lineVals) w := by kernel_rfl
theorem build_cls (a : Act) (w : World) : (Instr.build 86 (clsParts.map fun (i, x) => (i, a.eval x))).run Tryd.prog w = .ok (.agg clsVals) w := by kernel_rfl
theorem alloc_lines (w : World) : (Instr.alloc 85 true (.tuple #[])).run Tryd.prog w = .ok (.pointer (some ⟨w.heap.size, 0, none⟩)) (w.alloc (.cells (Array.replicate 40 (.string ⟨#[]⟩)) 85)) := by kernel_rfl
theorem alloc_cls (w : World) : (Instr.alloc 86 true (.tuple #[])).run Tryd.prog w = .ok (.pointer (some ⟨w.heap.size, 0, none⟩)) (w.alloc (.cells (Array.replicate 40 (.int .i64 0)) 86)) := by kernel_rfl
theorem info_lines : (Tryd.prog.info? 85).map (·.size) = some lineVals.size := by kernel_rfl
theorem info_cls : (Tryd.prog.info? 86).map (·.size) = some clsVals.size := by kernel_rfl
theorem infoRule : (Tryd.prog.info? 57).map (fun i => (i.zero, i.size, i.bytes)) = some (some (.agg #[.string ⟨#[]⟩, .string ⟨#[]⟩, .slice none 0 0, .int .i64 0]), 4, 64) := by kernel_rfl

/-- The cells of a rule of the document's catalogue: its tags lie in a block, behind two words. -/
def refCells (r : RuleP) (t c : Nat) : List Value := [strV r.id, strV r.name, .slice (some ⟨t, 2, none⟩) r.tags.length c, .int .i64 r.cls]
def refRows : List RuleP → List (Nat × Nat) → List Value
  | r :: rs, (t, c) :: ts => refCells r t c ++ refRows rs ts
  | _, _ => []
/-- A rule's tags lie in a block of texts, behind two words. -/
def TagsIn (w : World) (r : RuleP) (p : Nat × Nat) : Prop :=
  ∃ cs, w.heap[p.1]? = some (.cells cs 9 (0, 0)) ∧ r.tags.length ≤ p.2 ∧ ∀ j (h : j < r.tags.length), cs[2 + j]? = some (strV r.tags[j])
theorem TagsIn.lt {w : World} {r : RuleP} {p : Nat × Nat} (h : TagsIn w r p) : p.1 < w.heap.size := by
  obtain ⟨cs, h1, _⟩ := h
  exact (Array.getElem?_eq_some_iff.1 h1).1
theorem TagsIn.below {w w' : World} {r : RuleP} {p : Nat × Nat} (h : TagsIn w r p) (hb : Below w.heap.size w w') : TagsIn w' r p := by
  have hl := h.lt
  obtain ⟨cs, h1, h2⟩ := h
  exact ⟨cs, (hb.block _ hl).trans h1, h2⟩
theorem string_rule : (9 : TypeId) ≠ 57 := by decide
/-- A row of rules that grows leaves the blocks of texts. -/
theorem TagsIn.grown {w w' : World} {r : RuleP} {p : Nat × Nat} {base n : Nat} {v : Value} {xs : List Value} (h : TagsIn w r p) (hown : w.ownsRow base 57 4 v n xs) (hg : w.grownBy w' v.ownBlock) : TagsIn w' r p := by
  have hl := h.lt
  obtain ⟨cs, h1, h2⟩ := h
  refine ⟨cs, (hg.block _ hl fun hc => ?_).trans h1, h2⟩
  rcases hown.2 with ⟨hv, _⟩ | ⟨g, cap, cur, hv, _, hh, _⟩
  · rw [hv] at hc; cases hc
  · rw [hv] at hc
    cases hc
    rw [h1] at hh
    injection hh with hh
    injection hh with _ hh _
    exact string_rule hh
theorem refRows_snoc (r : RuleP) (p : Nat × Nat) : ∀ (rs : List RuleP) (ts : List (Nat × Nat)), rs.length = ts.length → refRows (rs ++ [r]) (ts ++ [p]) = refRows rs ts ++ refCells r p.1 p.2
  | [], [], _ => by simp [refRows]
  | [], _ :: _, h => by simp at h
  | _ :: _, [], h => by simp at h
  | x :: rs, (t, c) :: ts, h => by
    simp only [List.cons_append, refRows]
    rw [refRows_snoc r p rs ts (by simpa using h), List.append_assoc]
theorem take_rule (k : Nat) (h : k < rulesT.length) : rulesT.take (k + 1) = rulesT.take k ++ [rulesT[k]] := List.take_succ_eq_append_getElem h
theorem new_list (w : World) (T : TypeId) (a : Array Value) (L : Nat) (hL : L = w.heap.size) : ∀ j u, a.toList[j]? = some u → (w.alloc (.cells a T)).cell? ((⟨L, 0, none⟩ : Addr).add j) = some u := by
  subst hL
  intro j u hu
  rw [Addr.add_lit, Nat.zero_add, World.cell?_alloc_new]
  simpa using hu

/-- append to a row of the call's own, as one step of a region that draws its order. -/
theorem step_append_own {P : Program} {ops : Array Oper} {o : Oper} {a : Act} {w : World} {K : Act → World → Prop} {Q : Exit → Act → World → Prop} {E : Prop}
    (hg : o.guard = none) (s x : Operand) (t : TypeId) (hop : o.op = Op.call { callee := Callee.builtin Builtin.append, args := #[s, x], argTypes := #[t, t] })
    (base : Nat) (e : TypeId) (i : TypeInfo) (z : Value) (size bytes : Nat) (h1 : P.underlying t = some (.slice e)) (h2 : P.info? e = some i) (h3 : i.zero = some z) (h4 : i.size = size) (h5 : i.bytes = bytes) (h6 : z.cells.size = size) (h7 : 0 < size)
    (v : Value) (n : Nat) (xs : List Value) (hs : a.eval s = v) (hown : w.ownsRow base e size v n xs)
    (ad : Addr) (m c : Nat) (news : List Value) (hx : a.eval x = .slice (some ad) m c) (hn : news.length = m * size) (hc : ∀ j u, news[j]? = some u → w.cell? (ad.add j) = some u) (h1c : ∀ u ∈ news, u.oneCell' = true)
    (b1 : n + m ≤ maxLen) (b2 : (n + m) * bytes ≤ 140737488355328) (hbase : base ≤ w.heap.size)
    (hK : ∀ v' w', w'.ownsRow base e size v' (n + m) (xs ++ news) → w.grownBy w' v.ownBlock → K (a.put o.dst v') w') :
    if Region.wanted o (yielded ops a.tmps) = true then Oper.wp P o a w K Q else E := by
  have hw : Region.wanted o (yielded ops a.tmps) = true := by simp [Region.wanted, hg]
  rw [if_pos hw]
  obtain ⟨v', w', hrun, r1, r2, _⟩ := run_append_own (P := P) w base t o.type e i z size bytes h1 h2 h3 h4 h5 h6 h7 v n xs hown ad m c news hn hc h1c b1 b2 hbase
  unfold Oper.wp
  simp [execOp, hop, resolve, invoke, builtin, hs, hx, hrun, Result.andThen]
  exact hK v' w' r1 r2

set_option maxHeartbeats 8000000 in
set_option maxRecDepth 100000 in
theorem ref_all_any (w : World) : Calls Tryd.prog 29 #[] w fun e w' => (∃ v ts, e = .returned v ∧ ts.length = 40 ∧ w'.ownsRow (w.heap.size + 2) 57 4 v 40 (refRows rulesT ts) ∧ ∀ j (h : j < ts.length) (h2 : j < rulesT.length), TagsIn w' rulesT[j] ts[j]) ∧ Below w.heap.size w w' := by
  obtain ⟨i0, hi, hz0, hz1, hz2⟩ := info_parts infoRule
  have hl := rulesT_len
  go_enter Tryd.func29, Tryd.ntmps29
  go_wp2_with (first | (refine wpList_arrayLit 85 6 1 lineParts (Array.replicate 40 (.string ⟨#[]⟩)) lineVals _ _ _ rfl build_lines alloc_lines info_lines (by kernel_rfl) (by kernel_rfl) 33 rfl rfl ?_; simp only [List.drop_succ_cons, List.drop_zero]) | ((refine wpList_arrayLit 86 7 2 clsParts (Array.replicate 40 (.int .i64 0)) clsVals _ _ _ rfl build_cls alloc_cls info_cls (by kernel_rfl) (by kernel_rfl) 33 rfl rfl ?_); simp only [List.drop_succ_cons, List.drop_zero]))
  have zA : ((w.alloc (.cells lineVals 85)).alloc (.cells clsVals 86)).heap.size = w.heap.size + 2 := by simp
  have hA1 : ((w.alloc (.cells lineVals 85)).alloc (.cells clsVals 86)).heap[w.heap.size]? = some (.cells lineVals 85) := by
    rw [Below.heap_alloc _ _ _ (by simp)]; exact heap_alloc_new w _
  have hA2 : ((w.alloc (.cells lineVals 85)).alloc (.cells clsVals 86)).heap[w.heap.size + 1]? = some (.cells clsVals 86) := by
    have := heap_alloc_new (w.alloc (.cells lineVals 85)) (.cells clsVals 86)
    simpa using this
  have hAw : Below w.heap.size w ((w.alloc (.cells lineVals 85)).alloc (.cells clsVals 86)) := ((Below.refl _ w).alloc (Nat.le_refl _) _).alloc (by simp) _
  have hAn := heap_alloc_new ((w.alloc (.cells lineVals 85)).alloc (.cells clsVals 86)) (.cells #[] 57)
  have hAb : Below (w.heap.size + 2) ((w.alloc (.cells lineVals 85)).alloc (.cells clsVals 86)) (((w.alloc (.cells lineVals 85)).alloc (.cells clsVals 86)).alloc (.cells #[] 57)) := (Below.refl _ _).alloc (by rw [zA]; exact Nat.le_refl _) _
  rw [zA] at hAn
  go_loopw [3, 4, 5] (fun ov iv _ wr => ∃ (k : Nat) (ts : List (Nat × Nat)), k ≤ 40 ∧ ts.length = k ∧ iv = .int .i64 k ∧ wr.ownsRow (w.heap.size + 2) 57 4 ov k (refRows (rulesT.take k) ts) ∧ Below (w.heap.size + 2) ((w.alloc (.cells lineVals 85)).alloc (.cells clsVals 86)) wr ∧ w.heap.size + 2 ≤ wr.heap.size ∧ RowKit.Hid (∀ j (h : j < ts.length) (h2 : j < rulesT.length), TagsIn wr rulesT[j] ts[j])) (fun _ iv _ _ => 40 - (RowKit.intOf iv).toNat)
  case atStart =>
    refine ⟨0, [], Nat.zero_le _, rfl, rfl, ⟨rfl, .inr ⟨w.heap.size + 2, 0, #[], rfl, Nat.le_refl _, hAn, Nat.le_refl _, by decide, rfl, rfl⟩⟩, hAb, by simp, Lib.hid fun j h => by simp at h⟩
  case round =>
    obtain ⟨k, ts, hk, htl, rfl, hown, hbw, hws, HI⟩ := hrel
    by_cases hlt : k < 40
    · have hkl : k < rulesT.length := by omega
      obtain ⟨s1, s2⟩ := line_split _ (List.getElem_mem hkl)
      have c1 : wr.cell? ⟨w.heap.size, k, none⟩ = some (.string ⟨(lineL rulesT[k]).toArray⟩) := by
        simp [World.cell?, (hbw.block w.heap.size (by omega)).trans hA1, lineVals, List.getElem?_eq_getElem hkl, strV]
      have kw := words_any ⟨(lineL rulesT[k]).toArray⟩ (by rw [ba_size]; omega) wr
      rw [ba_list, s1] at kw
      have HTK := Lib.hid (take_rule k hkl)
      have HTL := Lib.hid (show (rulesT.take k).length = ts.length by rw [List.length_take]; omega)
      have c3 : ∀ wx, Below wr.heap.size wr wx → wx.cell? ⟨w.heap.size + 1, k, none⟩ = some (.int .i64 rulesT[k].cls) := fun wx hx => by
        simp [World.cell?, (hx.block (w.heap.size + 1) (by omega)).trans ((hbw.block (w.heap.size + 1) (by omega)).trans hA2), clsVals, List.getElem?_eq_getElem hkl]
      obtain ⟨_, _, _, f4, f5, _, _, _, _⟩ := rule_facts _ (List.getElem_mem hkl)
      have HI2 : RowKit.Hid (∀ wx, (∀ j (h : j < ts.length) (h2 : j < rulesT.length), TagsIn wx rulesT[j] ts[j]) → ∀ p, TagsIn wx rulesT[k] p → ∀ j (h : j < (ts ++ [p]).length) (h2 : j < rulesT.length), TagsIn wx rulesT[j] (ts ++ [p])[j]) := by
        intro wx ho p hp j h h2
        by_cases hj : j < ts.length
        · rw [List.getElem_append_left hj]; exact ho j hj h2
        · have hje : j = k := by simp at h; omega
          subst hje
          rw [List.getElem_append_right (by omega)]
          simpa [htl] using hp
      clear s1
      generalize hrr : rulesT[k] = r at *
      go_wp2_with fail
      refine kw.mono ?_
      rintro e w3 ⟨⟨v3, rfl, hown3⟩, b3⟩
      have z3 := b3.size
      obtain ⟨t, c, rfl⟩ := owns_form hown3 (by simp)
      have hlen3 : (r.id :: r.name :: r.tags).length = r.tags.length + 2 := by simp
      have hrow3 : ∃ cur, w3.heap[t]? = some (.cells cur 9 (0, 0)) ∧ r.tags.length + 2 ≤ c ∧ cur.toList.take (r.tags.length + 2) = strCells (r.id :: r.name :: r.tags) := by
        rcases hown3.2 with ⟨hv, _⟩ | ⟨g, cap, cur, hv, _, hh, hc, _, _, ht⟩
        · cases hv
        · injection hv with e1 e2 e3
          injection e1 with e1
          injection e1 with e1
          subst e1; subst e3
          exact ⟨cur, hh, by omega, by rw [← ht]; congr 1; omega⟩
      obtain ⟨cur, hcur, hcc, htk⟩ := hrow3
      have hget : ∀ j, j < r.tags.length + 2 → cur[j]? = (strCells (r.id :: r.name :: r.tags))[j]? := fun j hj => by
        rw [← htk, List.getElem?_take_of_lt hj]; simp
      have d0 : w3.cell? ⟨t, 0, none⟩ = some (.string ⟨r.id.toArray⟩) := by
        simp only [World.cell?, hcur]
        exact hget 0 (by omega)
      have d1 : w3.cell? ⟨t, 1, none⟩ = some (.string ⟨r.name.toArray⟩) := by
        simp only [World.cell?, hcur]
        exact hget 1 (by omega)
      have d3 := c3 w3 b3
      rw [hlen3]
      generalize hN : r.tags.length + 2 = N at *
      have i1 : (0 : Int) < (N : Int) := by omega
      have i2 : (1 : Int) < (N : Int) := by omega
      have i4 : 2 ≤ N := by omega
      have i5 : 0 < N := by omega
      have i6 : 1 < N := by omega
      have i7 : (2 : Int) ≤ (N : Int) := by omega
      have i8 : ¬ c = 2 := by omega
      have hNc : N ≤ c := hcc
      have i3 : (k : Int) < 40 := by omega
      have hown3' := ownsRow_below hown b3
      have hownD : (w3.drew.alloc (.cells #[.string ⟨r.id.toArray⟩, .string ⟨r.name.toArray⟩, .slice (some ⟨t, 2, none⟩) (N - 2) (c - 2), .int .i64 r.cls] 57)).ownsRow (w.heap.size + 2) 57 4 u3 k (refRows (rulesT.take k) ts) := by
        refine World.ownsRow.alloc (w := w3.drew) ?_ _
        exact hown3'
      have hown3s := (Array.getElem?_eq_some_iff.1 hcur).1
      have HT3 := Lib.hid (show ∀ j (h : j < ts.length) (h2 : j < rulesT.length), TagsIn w3 rulesT[j] ts[j] from fun j h h2 => (HI.out j h h2).below b3)
      have HP3 := Lib.hid (show TagsIn w3 r (t, c - 2) from ⟨cur, hcur, by show _ ≤ c - 2; omega, fun j hj => by
        rw [hget (2 + j) (by omega)]
        show ((strV r.id :: strV r.name :: r.tags.map strV))[2 + j]? = _
        rw [show 2 + j = j + 1 + 1 by omega]
        simp [List.getElem?_eq_getElem hj]⟩)
      have hX : Below w3.heap.size w3 (w3.alloc (.cells #[.string ⟨r.id.toArray⟩, .string ⟨r.name.toArray⟩, .slice (some ⟨t, 2, none⟩) (N - 2) (c - 2), .int .i64 r.cls] 57)).drew := ((Below.refl _ w3).alloc (Nat.le_refl _) _).drew
      have hownX : (w3.alloc (.cells #[.string ⟨r.id.toArray⟩, .string ⟨r.name.toArray⟩, .slice (some ⟨t, 2, none⟩) (N - 2) (c - 2), .int .i64 r.cls] 57)).drew.ownsRow (w.heap.size + 2) 57 4 u3 k (refRows (rulesT.take k) ts) := hownD
      have hb3A : Below (w.heap.size + 2) ((w.alloc (.cells lineVals 85)).alloc (.cells clsVals 86)) w3 := hbw.trans (b3.mono hws)
      have hbX := hb3A.trans (hX.mono (by omega))
      go_wp2_with fail
      go_region_law ((refine step_append_own rfl (.tmp 17) (.tmp 30) 53 rfl (w.heap.size + 2) 57 i0 (.agg #[.string ⟨#[]⟩, .string ⟨#[]⟩, .slice none 0 0, .int .i64 0]) 4 64 Tryd.underlying53 hi hz0 hz1 hz2 rfl (by decide) u3 k (refRows (rulesT.take k) ts) (by simp [Act.eval, Act.put]) hownD ⟨w3.heap.size, 0, none⟩ 1 1 [.string ⟨r.id.toArray⟩, .string ⟨r.name.toArray⟩, .slice (some ⟨t, 2, none⟩) (N - 2) (c - 2), .int .i64 r.cls] (by simp [Act.eval, Act.put]) rfl (new_list _ _ _ _ rfl) (by simp [Value.oneCell']) (by unfold maxLen; omega) (by omega) (by simp; omega) ?_); intro v' w5 hown5 hgrow5)
      all_goals
        have hb5 := hbX.grown hgrow5 (by show _ ≤ (w3.alloc _).heap.size; simp; omega) (fun kk hk => (ownsRow_lt hownX hk).1)
        have z5 := hgrow5.size
        have HO := Lib.hid (show ∀ j (h : j < ts.length) (h2 : j < rulesT.length), TagsIn w5 rulesT[j] ts[j] from fun j h h2 => ((HT3.out j h h2).below hX).grown hownX hgrow5)
        have HP := Lib.hid (show TagsIn w5 r (t, c - 2) from ((HP3.out).below hX).grown hownX hgrow5)
        go_wp2_with fail
        go_roundw
        case rel =>
          refine ⟨k + 1, ts ++ [(t, c - 2)], by omega, by simp; omega, by go_num, ?_, hb5, ?_, Lib.hid (HI2.out w5 HO.out _ HP.out)⟩
          · rw [HTK.out, refRows_snoc _ _ _ _ HTL.out]
            have e : refCells r t (c - 2) = [.string ⟨r.id.toArray⟩, .string ⟨r.name.toArray⟩, .slice (some ⟨t, 2, none⟩) (N - 2) (c - 2), .int .i64 r.cls] := by
              unfold refCells strV
              rw [show r.tags.length = N - 2 by omega]
            rw [e]
            exact hown5
          · have : (w3.alloc (.cells #[.string ⟨r.id.toArray⟩, .string ⟨r.name.toArray⟩, .slice (some ⟨t, 2, none⟩) (N - 2) (c - 2), .int .i64 r.cls] 57)).heap.size ≤ w5.heap.size := z5
            simp at this
            omega
        case measure => simp [RowKit.intOf]; omega
    · obtain rfl : k = 40 := by omega
      rw [List.take_of_length_le (by omega)] at hown
      go_wp2_with fail
      go_ret
      exact ⟨⟨_, ts, rfl, htl, hown, HI.out⟩, hAw.trans (hbw.mono (by omega))⟩
end Go.Proofs.YtlebikmiophghaaDoor
