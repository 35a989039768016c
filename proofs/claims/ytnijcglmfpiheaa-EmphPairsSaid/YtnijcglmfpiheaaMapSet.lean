/-
  A store at a key that is there, into the map that a loop ranges over: nothing changes of what is still to come. Conditions: the key is there.
-/
import Derived.Maps.RangeWalk
set_option linter.unusedSimpArgs false
set_option linter.unusedVariables false
namespace Go.Proofs.Ytnijcglmfpiheaa
open Go.ChangeMaps Go.MapKept Go.WideShapes
open Go.WideElems (Fit rd rg pl rd_key rd_val rg_of other_key rd_mk)
open Go.Maps (Keyed)

theorem ranges_set {H : Type} {P : Program} {k : TypeId} {R : Value → Option (DataW H × List MemPlace)} {w : World} {b r n : Nat} {D : DataW H} {left : Lit → Bool} {cnt : Nat} (h : w.ranges P k R b r n D left cnt) (K : Keyed P k) {t e : TypeId} (ht : P.underlying t = some (.map k e)) {key val : Value} {kl : Lit} {yv : DataW H × List MemPlace}
    (hkey : keyOf P k key = some kl) (hv : R val = some yv) (hhas : Maps.has D kl = true) :
    ∃ w', (Instr.mapUpdate t (.map (some b)) key val).run P w = .ok () w' ∧ w'.ranges P k R b r n (D.put kl yv.1) left cnt ∧ w.grownBy w' (some b) ∧ w'.heap.size = w.heap.size := by
  have hne := h.ne
  obtain ⟨es, clock, since, seen, c0, hb, F, hs, rfl, hr, hold, rfl, hl1, hl2, hsc, hsk⟩ := h
  rcases K.find w hkey es.toList F.keys with ⟨h1, h2⟩ | ⟨j, e0, h1, h2, h3⟩
  · exfalso
    obtain ⟨p, hp, hpk⟩ := List.any_eq_true.1 hhas
    obtain ⟨x, hx, rfl⟩ := List.mem_map.1 (mem_sorted.1 hp)
    obtain ⟨y, hy⟩ := F.reads x hx
    have e1 := WideAt.sameKey_eq hpk
    rw [rg_of hy] at e1
    exact h2 x hx (K.inj (e1 ▸ rd_key hy) hkey)
  · have hj : es[j]? = some e0 := by simpa using h2
    have hjl : j < es.toList.length := (List.getElem?_eq_some_iff.1 h2).1
    have hkeyf : ∀ e', es[j]? = some e' → ({ e' with key := key, val := val } : MapEntry).key = e'.key := fun e' he' => by rw [hj] at he'; cases he'; exact h3.symm
    have hlist : (es.modify j (fun e' => { e' with key := key, val := val })).toList = es.toList.set j { e0 with key := key, val := val } := by rw [Array.toList_modify, modify_eq_set _ _ _ _ h2]
    have he0 : e0 ∈ es.toList := List.mem_of_getElem? h2
    have hnew : (rg P k R { e0 with key := key, val := val }) = (kl, yv.1) := rg_of (rd_mk hkey hv)
    have hold0 : (rg P k R e0).1 = kl := by
      obtain ⟨y, hy⟩ := F.reads e0 he0
      have m1 := rd_key hy
      rw [h3, hkey] at m1
      rw [rg_of hy, ← Option.some.inj m1]
    have who : ∀ x ∈ es.toList.set j { e0 with key := key, val := val }, x = { e0 with key := key, val := val } ∨ x ∈ es.toList := fun x hx => by
      rcases List.mem_or_eq_of_mem_set hx with h4 | h4
      · exact .inr h4
      · exact .inl h4
    have hborn : (es.modify j (fun e' => { e' with key := key, val := val })).toList.map (·.born) = es.toList.map (·.born) := by
      rw [hlist, List.map_set]
      have : es.toList.map (·.born) = (es.toList.map (·.born)).set j e0.born := by
        refine (List.set_getElem_self (by simpa using hjl)).symm.trans ?_
        congr 1
        rw [List.getElem_map]
        exact congrArg MapEntry.born (List.getElem?_eq_some_iff.1 h2).2
      exact this.symm
    have eL : ∀ a : Array MapEntry, (leftOf a seen).size = ((a.toList.map (·.born)).filter fun e => !seen.contains e).length := fun a => by
      have e1 : (leftOf a seen).size = (a.toList.filter fun e => !seen.contains e.born).length := by
        unfold leftOf
        rw [← Array.toList_filter, Array.length_toList]
      rw [e1, List.filter_map, List.length_map]
      rfl
    refine ⟨setBlock w b (.map (es.modify j (fun e' => { e' with key := key, val := val })) clock), ?_, ⟨es.modify j (fun e' => { e' with key := key, val := val }), clock, since, seen, c0, heap_setBlock_same hb _, ⟨by simpa using F.size, stamped_modify F.stamped _ _ (fun _ _ => rfl) (fun e' _ he' => hkeyf e' he'), fun x hx => ?_⟩, by simpa using hs, ?_, (heap_setBlock_other hb _ hne).trans hr, fun x hx => ?_, by rw [eL, eL, hborn], fun x hx => ?_, fun kl' hkl' => ?_, hsc, hsk⟩, ⟨rfl, rfl, rfl, by simp [setBlock], fun i _ hi => heap_setBlock_other hb _ (fun e => hi (by rw [e]))⟩, by simp [setBlock]⟩
    · simp [Instr.mapUpdate, run_underlying ht, MapKept.run_getObj_map hb, K.check w false hkey, h1, hj, h3, K.stays w hkey, MapKept.run_setObj_map _ hb, Result.andThen, setBlock]
    · rw [hlist] at hx
      rcases who x hx with rfl | hx
      · exact ⟨_, rd_mk hkey hv⟩
      · exact F.reads x hx
    · rw [DataW.put_eq]
      refine congrArg DataW.map (Eq.symm ?_)
      refine Maps.sorted_put K.one ⟨key, hkey⟩ (Maps.fit_keys F) (Maps.fit_apart K F) ?_
      rw [Maps.filter_one K F hkey h2 h3, hlist, List.map_set, hnew]
      exact set_perm _ _ (by simpa using hjl) _
    · rw [hlist] at hx
      rcases who x hx with rfl | hx
      · exact hold e0 he0
      · exact hold x hx
    · rw [hlist] at hx
      rcases who x hx with rfl | hx
      · rw [hnew, ← hold0]; exact hl1 e0 he0
      · exact hl1 x hx
    · obtain ⟨x, hx, rfl⟩ := hl2 kl' hkl'
      rw [hlist]
      obtain ⟨i, hi, rfl⟩ := List.mem_iff_getElem.1 hx
      by_cases hij : i = j
      · subst hij
        refine ⟨{ e0 with key := key, val := val }, List.mem_iff_getElem.2 ⟨i, by simpa using hi, by simp⟩, ?_⟩
        rw [hnew]
        have : es.toList[i] = e0 := (List.getElem?_eq_some_iff.1 h2).2
        rw [this, hold0]
      · exact ⟨es.toList[i], List.mem_iff_getElem.2 ⟨i, by simpa using hi, by rw [List.getElem_set_ne (fun e => hij e.symm)]⟩, rfl⟩

/-- 'm[k] = v' IN THE ROUND, k being there. -/
theorem wpList_update_ranges {H : Type} {P : Program} (w : World) {ops : Array Oper} {rest : List Oper} {o : Oper} {a : Act} {Q : Exit → Act → World → Prop}
    (hg : o.guard = none) (m x v : Operand) (t : TypeId) (hop : o.op = Op.mapUpdate t m x v)
    (k e : TypeId) (K : Keyed P k) (ht : P.underlying t = some (.map k e)) (R : Value → Option (DataW H × List MemPlace)) (b r n : Nat) (D : DataW H) (left : Lit → Bool) (cnt : Nat)
    (hm : a.eval m = .map (some b)) (h : w.ranges P k R b r n D left cnt) (key val : Value) (kl : Lit) (hx : a.eval x = key) (hv : a.eval v = val) (hkey : keyOf P k key = some kl)
    (d : DataW H) (ps : List MemPlace) (hval : R val = some (d, ps)) (hhas : Maps.has D kl = true)
    (hK : ∀ w', w'.ranges P k R b r n (D.put kl d) left cnt → w.grownBy w' (some b) → w'.heap.size = w.heap.size → wpList P ops Q rest (a.put o.dst undef) w') :
    wpList P ops Q (o :: rest) a w := by
  refine wpList_plain hg fun K' hK' => ?_
  obtain ⟨w', hrun, r1, r2, r3⟩ := ranges_set h K ht hkey hval hhas
  unfold Oper.wp
  simp [execOp, hop, hm, hx, hv, hrun, Result.andThen]
  exact hK' _ _ (hK w' r1 r2 r3)
end Go.Proofs.Ytnijcglmfpiheaa
