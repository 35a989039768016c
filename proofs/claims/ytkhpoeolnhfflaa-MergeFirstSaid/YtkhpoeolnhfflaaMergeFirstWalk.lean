/-
  The walk of MergeFirst: it returns true whatever it is handed. Conditions: the form's own bounds.
-/
import Derived.Test.YtkhpoeolnhfflaaMergeLaw
import Derived.Deep.RegionLaw
import Derived.Deep.RegionHeld3
import Derived.Deep.Cut
set_option linter.unusedSimpArgs false
set_option linter.unusedVariables false
namespace Go.Proofs.Ytkhpoeolnhfflaa
open Go.Shelf Go.RowKit Go.Lib Go.Sort

/-- append TO AN OWN ROW, as one step of a region that draws. -/
theorem step_append_own {P : Program} {ops : Array Oper} {o : Oper} {a : Act} {w : World} {K : Act → World → Prop} {Q : Exit → Act → World → Prop} {E : Prop}
    (hg : o.guard = none) (s x : Operand) (t : TypeId) (hop : o.op = Op.call { callee := Callee.builtin Builtin.append, args := #[s, x], argTypes := #[t, t] })
    (base : Nat) (e : TypeId) (i : TypeInfo) (z : Value) (size bytes : Nat) (h1 : P.underlying t = some (.slice e)) (h2 : P.info? e = some i) (h3 : i.zero = some z) (h4 : i.size = size) (h5 : i.bytes = bytes) (h6 : z.cells.size = size) (h7 : 0 < size)
    (v : Value) (n : Nat) (xs : List Value) (hs : a.eval s = v) (hown : w.ownsRow base e size v n xs)
    (ad : Addr) (m c : Nat) (news : List Value) (hx : a.eval x = .slice (some ad) m c) (hn : news.length = m * size) (hc : ∀ j u, news[j]? = some u → w.cell? (ad.add j) = some u) (h1c : ∀ u ∈ news, u.oneCell' = true)
    (b1 : n + m ≤ maxLen) (b2 : (n + m) * bytes ≤ 140737488355328) (hbase : base ≤ w.heap.size)
    (hK : ∀ v' w', w'.ownsRow base e size v' (n + m) (xs ++ news) → w.grownBy w' v.ownBlock → K (a.put o.dst v') w') :
    if Region.wanted o (yielded ops a.tmps) = true then Oper.wp P o a w K Q else E := by
  have hw : Region.wanted o (yielded ops a.tmps) = true := by simp [Region.wanted, hg]
  rw [if_pos hw]
  obtain ⟨v', w', hrun, r1, r2, _⟩ := run_append_own (P := P) w base t o.type e i z size bytes h1 h2 h3 h4 h5 h6 h7 v n xs hown ad m c news hn hc h1c b1 b2 hbase
  unfold Oper.wp
  simp [execOp, hop, resolve, invoke, builtin, hs, hx, hrun, Result.andThen]
  exact hK v' w' r1 r2
/-- What an own row of findings holds whose edits lie anywhere. -/
theorem findsIn_of_owns3 {w : World} {base : Nat} {v : Value} {rs : List (FindP × Value)} (h : w.ownsRow base 37 4 v rs.length (findCells rs)) (hE : ∀ r ∈ rs, EditsIn w.heap.size w r.2 r.1.edits) : FindsIn w.heap.size w v (rs.map Prod.fst) := by
  rcases h.2 with ⟨rfl, h0⟩ | ⟨g, cap, cur, rfl, hg, hh, hc, hm, hs, ht⟩
  · obtain rfl := List.length_eq_zero_iff.1 h0
    exact ⟨none, 0, rfl, fun h => absurd rfl h⟩
  · refine ⟨_, cap, by rw [List.length_map], fun _ => ⟨g, 0, rfl, (Array.getElem?_eq_some_iff.1 hh).1, fun j hj => ?_⟩⟩
    have hj' : j < rs.length := by simpa using hj
    have cellAt : ∀ c, c < 4 → w.cell? ⟨g, 0 + j * 4 + c, none⟩ = (findC rs[j])[c]? := fun c hc4 => by
      have h1 := findCells_get rs j hj' c hc4
      rw [← ht, List.getElem?_take_of_lt (by omega)] at h1
      simp only [World.cell?, hh]
      rw [← h1]; simp
    have hI := hE rs[j] (List.getElem_mem hj')
    obtain ⟨a, ca, hv, -⟩ := id hI
    have hf : (rs.map Prod.fst)[j] = rs[j].1 := by simp
    rw [hf]
    refine ⟨by simpa [findC] using cellAt 0 (by omega), by simpa [findC] using cellAt 1 (by omega), by simpa [findC] using cellAt 2 (by omega), a, ca, ?_, hv ▸ hI⟩
    rw [← hv]
    simpa [findC] using cellAt 3 (by omega)

theorem cells_of_block4 {w : World} {L : Nat} {a b c d : Value} {T : TypeId} (h : w.heap[L]? = some (.cells #[a, b, c, d] T)) : ∀ j u, ([a, b, c, d] : List Value)[j]? = some u → w.cell? ((⟨L, 0, none⟩ : Addr).add j) = some u := by
  intro j u hu
  rw [Addr.add_lit, Nat.zero_add]
  simp only [World.cell?, h]
  simpa using hu
theorem owns_mono {w : World} {base base' n size : Nat} {e : TypeId} {v : Value} {xs : List Value} (h : w.ownsRow base e size v n xs) (hb : base' ≤ base) : w.ownsRow base' e size v n xs := by
  refine ⟨h.1, ?_⟩
  rcases h.2 with hn | ⟨g, cap, cur, hv, hg, rest⟩
  · exact .inl hn
  · exact .inr ⟨g, cap, cur, hv, Nat.le_trans hb hg, rest⟩
/-- What stands behind the copied findings and one more. -/
theorem first_facts {wc wA w5 : World} {rs : List (FindP × Value)} {l : List FindP} {f : FindP} {u v v5 : Value} (hoR : wA.ownsRow wc.heap.size 37 4 v rs.length (findCells rs)) (hb : Below wc.heap.size wc wA) (hM : rs.map Prod.fst = l)
    (hE : ∀ r ∈ rs, EditsT wA r.2 r.1.edits) (hMo : EditsIn wc.heap.size wc u f.edits) (hR5 : w5.ownsRow wc.heap.size 37 4 v5 (rs.length + 1) (findCells rs ++ findC (f, u))) (hg5 : wA.grownBy w5 v.ownBlock) :
    ∃ a5 c5, v5 = .slice a5 (l ++ [f]).length c5 ∧ FindsIn w5.heap.size w5 (.slice a5 (l ++ [f]).length c5) (l ++ [f]) ∧ Below wc.heap.size wc w5 := by
  have hB5 := below_own hb hb.size hoR hg5
  have hty := ownsRow_typed hoR
  have hR6 : w5.ownsRow wc.heap.size 37 4 v5 (rs ++ [(f, u)]).length (findCells (rs ++ [(f, u)])) := by
    rw [findCells_snoc, List.length_append]; exact hR5
  have hF := findsIn_of_owns3 hR6 fun r hr => by
    rcases List.mem_append.1 hr with h | h
    · exact ((hE r h).grown hg5 (by decide) hty).1
    · rw [List.mem_singleton.1 h]; exact hMo.later0 hB5
  rw [List.map_append, hM] at hF
  have hF' : FindsIn w5.heap.size w5 v5 (l ++ [f]) := hF
  obtain ⟨a5, c5, e, -⟩ := id hF'
  subst e
  exact ⟨a5, c5, rfl, hF', hB5⟩

namespace mergeFirst
set_option maxHeartbeats 16000000 in
set_option maxRecDepth 100000 in
theorem walk (a : Option Addr) (l : List FindP) (cap : Nat) (hl : l.length * 48 ≤ reachBytes) (hx : ∀ f ∈ l, FindOk f) (f : FindP) (aM : Option Addr) (cM : Nat) (hf : FindOk f) (w : World) (hI : FindsIn w.heap.size w (.slice a l.length cap) l) (hM : EditsIn w.heap.size w (.slice aM f.edits.length cM) f.edits) :
    Calls Try.prog 5 #[.slice a l.length cap, .agg #[.int .i64 f.rule, .int .i64 f.fr, .int .i64 f.to, .slice aM f.edits.length cM]] w fun e w' => e = .returned (.bool true) ∧ Below w.heap.size w w' := by
  have hG := fun (w1 : World) (h : FindsIn w1.heap.size w1 (.slice a l.length cap) l) => greatF_any a cap l hx w1 h
  have HI := Lib.hid hI
  have HM := Lib.hid hM
  have mixed : Try.prog.follows Departure.mixedOrders = true := rfl
  obtain ⟨i0, hi, hz0, hz1, hz2⟩ := info_parts infoFind
  have hfl : f.edits.length ≤ 4611686018427387904 := by have := hf.len; unfold reachBytes at this; omega
  have hnb := heap_alloc_new w (.cells #[.int .i64 f.rule, .int .i64 f.fr, .int .i64 f.to, .slice aM f.edits.length cM] 37)
  have hNB : Below w.heap.size w (w.alloc (.cells #[.int .i64 f.rule, .int .i64 f.fr, .int .i64 f.to, .slice aM f.edits.length cM] 37)) := (Below.refl _ w).alloc (Nat.le_refl _) _
  have hNz : (w.alloc (.cells #[.int .i64 f.rule, .int .i64 f.fr, .int .i64 f.to, .slice aM f.edits.length cM] 37)).heap.size = w.heap.size + 1 := by simp
  have HBX : RowKit.Hid (∀ X, Below (w.alloc (.cells #[.int .i64 f.rule, .int .i64 f.fr, .int .i64 f.to, .slice aM f.edits.length cM] 37)).heap.size (w.alloc (.cells #[.int .i64 f.rule, .int .i64 f.fr, .int .i64 f.to, .slice aM f.edits.length cM] 37)) X →
      Below w.heap.size w X ∧ X.cell? ⟨w.heap.size, 0, none⟩ = some (.int .i64 f.rule) ∧ X.cell? ⟨w.heap.size, 1, none⟩ = some (.int .i64 f.fr) ∧ X.cell? ⟨w.heap.size, 2, none⟩ = some (.int .i64 f.to) ∧ X.cell? ⟨w.heap.size, 3, none⟩ = some (.slice aM f.edits.length cM)) := fun X h =>
    ⟨hNB.trans (h.mono (by omega)), block_four ((h.block _ (by omega)).trans hnb)⟩
  clear hI hM hx hl hf hnb hNB hNz
  cases hg : greatF l
  · rw [hg] at hG
    obtain ⟨g1, g2, g3⟩ := greatF_false hg
    by_cases hs5 : 300 < f.edits.length
    · have hs5' : (300 : Int) < (f.edits.length : Int) := by omega
      clear hg g3
      go_enter Try.func5, Try.ntmps5
      go_wp2_with fail
      refine (mergeAlive_any _).mono ?_
      rintro e w1 ⟨rfl, b1⟩
      go_wp2_with fail
      obtain ⟨d1, -, -, -, p3⟩ := HBX.out w1 b1
      refine (hG w1 (HI.out.later d1)).mono ?_
      rintro e w2 ⟨rfl, rfl⟩
      go_wp2_with fail
      go_ret
      exact ⟨rfl, d1⟩
    · have hs5' : ¬ (300 : Int) < (f.edits.length : Int) := by omega
      have HCo : RowKit.Hid (∀ (wc X : World), FindsIn X.heap.size X (.slice a l.length cap) l → wc.heap.size ≤ X.heap.size → Calls Try.prog 15 #[.slice a l.length cap] X fun e w' => (∃ aR cR rs, e = .returned (.slice aR l.length cR) ∧ w'.ownsRow wc.heap.size 37 4 (.slice aR l.length cR) l.length (findCells rs) ∧ RowKit.Hid (rs.map Prod.fst = l) ∧ RowKit.Hid (∀ r ∈ rs, EditsT w' r.2 r.1.edits)) ∧ Below X.heap.size X w') := fun wc X h hz =>
        (copyFindings_own a cap l (by omega) (fun f hf => by have := g3 f hf; omega) X h).mono fun e w' ⟨⟨v, rs, h1, h2, h3, h4⟩, h5⟩ => by
          have hrl : rs.length = l.length := by rw [← h3, List.length_map]
          rw [hrl] at h2
          obtain ⟨aR, cR, rfl, -⟩ := ownsRow_slice h2
          exact ⟨⟨aR, cR, rs, h1, owns_mono h2 hz, h3, h4⟩, h5⟩
      have hCh := fun (a1 : Option Addr) (c1 : Nat) (w1 : World) (h : FindsIn w1.heap.size w1 (.slice a1 l.length c1) l) => mergeChoose_any a1 c1 l (by omega) (by omega) w1 h
      have hCp := fun (w1 : World) (h : FindsIn w1.heap.size w1 (.slice a l.length cap) l) => copyFindings_any a cap l (by omega) (fun f hf => by have := g3 f hf; omega) w1 h
      have htot : totE (l ++ [f]) ≤ 1000000 := by
        have : totE (l ++ [f]) = totE l + f.edits.length := by simp [totE]
        omega
      have hCh2 := fun (a1 : Option Addr) (c1 : Nat) (w1 : World) (h : FindsIn w1.heap.size w1 (.slice a1 (l ++ [f]).length c1) (l ++ [f])) => mergeChoose_cap a1 c1 (l ++ [f]) (by simp; omega) htot w1 h
      have hlen : (chooseP l).length ≤ 100 := by have := choose_le l; omega
      have hsn := choose_snoc l f
      have hD : (chooseP (l ++ [f])).length = (chooseP l).length ∨ (chooseP (l ++ [f])).length = (chooseP l).length + 1 := by
        rcases hsn with h | h
        · left; rw [h]
        · right; rw [h]; simp
      have htk : (chooseP (l ++ [f])).take (chooseP l).length = chooseP l := by
        rcases hsn with h | h
        · rw [h, List.take_length]
        · rw [h]; simp
      have hfirst : 0 < l.length → ∃ h : 0 < (chooseP l).length, (chooseP l)[0] = 0 := fun h => by
        cases l with
        | nil => simp at h
        | cons x t =>
          obtain ⟨r, hr⟩ := choose_first x t
          exact ⟨by rw [hr]; simp, by simp [hr]⟩
      have hSI := fun (a1 a2 : Option Addr) (c1 c2 : Nat) (w1 : World) (h1 : IntsIn w1.heap.size w1 (.slice a1 (chooseP l).length c1) (chooseP l)) (h2 : IntsIn w1.heap.size w1 (.slice a2 (chooseP l).length c2) (chooseP l)) => sameInts_any a1 a2 c1 c2 (chooseP l) (by omega) w1 h1 h2
      have HTK := Lib.hid htk
      clear hg g3 htot hsn htk
      generalize hLL : l ++ [f] = LL at *
      have HLL := Lib.hid hLL
      clear hLL
      generalize chooseP l = C at *
      generalize chooseP LL = D at *
      go_enter Try.func5, Try.ntmps5
      go_wp2_with fail
      refine (mergeAlive_any _).mono ?_
      rintro e w1 ⟨rfl, b1⟩
      go_wp2_with fail
      obtain ⟨d1, -, -, -, p3⟩ := HBX.out w1 b1
      refine (hG w1 (HI.out.later d1)).mono ?_
      rintro e w2 ⟨rfl, rfl⟩
      go_wp2_with fail
      refine (hCp _ (HI.out.later d1)).mono ?_
      rintro e w3 ⟨⟨a3, c3, rfl, hO3⟩, b3⟩
      have e3 := b1.trans (b3.mono b1.size)
      clear d1 p3
      go_wp2_with fail
      refine (hCh a3 c3 w3 hO3).mono ?_
      rintro e wc ⟨⟨a4, c4, rfl, hC4⟩, b4⟩
      have e4 := e3.trans (b4.mono e3.size)
      obtain ⟨d4, p0, p1, p2, p3⟩ := HBX.out wc e4
      have HMc := Lib.hid (HM.out.later0 d4)
      have HD4 := Lib.hid d4
      have HC4 := Lib.hid hC4
      have HAN : RowKit.Hid (∀ X, Below wc.heap.size wc X → FindsIn X.heap.size X (.slice a l.length cap) l ∧ X.cell? ⟨w.heap.size, 0, none⟩ = some (.int .i64 f.rule) ∧ X.cell? ⟨w.heap.size, 1, none⟩ = some (.int .i64 f.fr) ∧ X.cell? ⟨w.heap.size, 2, none⟩ = some (.int .i64 f.to) ∧ X.cell? ⟨w.heap.size, 3, none⟩ = some (.slice aM f.edits.length cM)) := fun X h => by
        obtain ⟨k0, k1⟩ := HBX.out X (e4.trans (h.mono e4.size))
        exact ⟨HI.out.later k0, k1⟩
      have hW : Below wc.heap.size wc wc.drew := (Below.refl _ wc).drew
      have hW2 : ∀ o, Below wc.heap.size wc (wc.alloc o).drew := fun o => ((Below.refl _ wc).alloc (Nat.le_refl _) o).drew
      have HAP : RowKit.Hid (∀ wA w5 (rs : List (FindP × Value)) v v5, wA.ownsRow wc.heap.size 37 4 v l.length (findCells rs) → Below wc.heap.size wc wA → RowKit.Hid (rs.map Prod.fst = l) → RowKit.Hid (∀ r ∈ rs, EditsT wA r.2 r.1.edits) → w5.ownsRow wc.heap.size 37 4 v5 (l.length + 1) (findCells rs ++ [.int .i64 f.rule, .int .i64 f.fr, .int .i64 f.to, .slice aM f.edits.length cM]) → wA.grownBy w5 v.ownBlock → ∃ a5 c5, v5 = .slice a5 LL.length c5 ∧ FindsIn w5.heap.size w5 (.slice a5 LL.length c5) LL ∧ Below wc.heap.size wc w5) := fun wA w5 rs v v5 h1 h2 h3 h4 h5 h6 => by
        have hrl : l.length = rs.length := by rw [← h3.out, List.length_map]
        rw [hrl] at h1 h5
        have := first_facts h1 h2 h3.out h4.out HMc.out h5 h6
        rw [HLL.out] at this
        exact this
      have HEA : RowKit.Hid (∀ (X : World) (o : Obj) (rs : List (FindP × Value)), RowKit.Hid (∀ r ∈ rs, EditsT X r.2 r.1.edits) → RowKit.Hid (∀ r ∈ rs, EditsT (X.alloc o) r.2 r.1.edits)) := fun X o rs h r hr => (h.out r hr).later ((Below.refl _ X).alloc (Nat.le_refl _) o)
      clear b1 e3 b3 b4 e4 hO3 d4 hC4 hCp hCh HBX HI HM hG HMc
      have hPz : w.heap.size ≤ wc.heap.size := HD4.out.size
      generalize hPw : w.heap.size = P at *
      have HPW := Lib.hid hPw
      clear hPw
      generalize f.edits.length = fl at *
      generalize f.rule = f0 at *
      generalize f.fr = f1 at *
      generalize f.to = f2 at *
      go_wp2_with fail
      go_cut [5, 6] from 7 (fun cv dv wd => cv = .slice a4 C.length c4 ∧ ∃ a6 c6, dv = .slice a6 D.length c6 ∧ D.length ≤ c6 ∧ IntsIn wd.heap.size wd (.slice a6 D.length c6) D ∧ Below wc.heap.size wc wd)
      case first =>
        clear HD4 HC4 HTK hSI hfirst hD hlen
        clear p0 p1 p2 p3
        go_region_held3 (fun w' => w'.cell? ⟨P, 0, none⟩ = some (.int .i64 f0) ∧ w'.cell? ⟨P, 1, none⟩ = some (.int .i64 f1) ∧ w'.cell? ⟨P, 2, none⟩ = some (.int .i64 f2) ∧ w'.cell? ⟨P, 3, none⟩ = some (.slice aM fl cM))
          (first | with_reducible exact (HAN.out _ hB6).2 | with_reducible exact (HAN.out _ hB5).2 | with_reducible exact (HAN.out _ (hBC1.alloc hBC1.size _)).2 | with_reducible exact (HAN.out _ hBC1).2 | with_reducible exact (HAN.out _ hBC2).2 | with_reducible exact (HAN.out _ (hW2 _)).2 | with_reducible exact (HAN.out _ hW).2)
          (first
            | (go_at_call 17; (with_reducible refine (hCh2 _ _ _ hF5).mono ?_); rintro e w6 ⟨⟨a6, c6, rfl, hcap6, hI6⟩, b6⟩; have hB6 := hB5.trans (b6.mono hB5.size))
            | (go_at_call 15; (with_reducible refine (HCo.out wc _ (HAN.out _ hW).1 hW.size).mono ?_); rintro e wC ⟨⟨aR, cR, rs, rfl, hoC1, HMM, HEE⟩, bC⟩; have hBC1 : Below wc.heap.size wc wC := hW.trans (bC.mono hW.size))
            | (go_at_call 15; (with_reducible refine (HCo.out wc _ (HAN.out _ (hW2 _)).1 (hW2 _).size).mono ?_); rintro e wC ⟨⟨aR, cR, rs, rfl, hoC2, HMM, HEE⟩, bC⟩; have hBC2 : Below wc.heap.size wc wC := (hW2 _).trans (bC.mono (hW2 _).size))
            | ((fail_if_success go_at_call 17); (fail_if_success go_at_call 15); (refine step_append_own rfl _ _ 22 rfl wc.heap.size 37 i0 (.agg #[.int .i64 0, .int .i64 0, .int .i64 0, .slice none 0 0]) 4 48 Try.underlying22 hi hz0 hz1 hz2 rfl (by decide) _ _ _ rfl (hoC1.alloc _) ⟨wC.heap.size, 0, none⟩ 1 1 [.int .i64 f0, .int .i64 f1, .int .i64 f2, .slice aM fl cM] rfl rfl (new_four _ _ _ _ _ _) (one_four _ _ _ _ _ _) (by unfold maxLen; omega) (by omega) (hBC1.alloc hBC1.size _).size ?_); intro v5 w5 hR5 hg5; obtain ⟨a5, c5, rfl, hF5, hB5⟩ := HAP.out _ _ rs _ _ (hoC1.alloc _) (hBC1.alloc hBC1.size _) HMM (HEA.out _ _ _ HEE) hR5 hg5; clear hR5 hg5 HMM HEE hoC1 bC hBC1)
            | ((fail_if_success go_at_call 17); (fail_if_success go_at_call 15); (refine step_append_own rfl _ _ 22 rfl wc.heap.size 37 i0 (.agg #[.int .i64 0, .int .i64 0, .int .i64 0, .slice none 0 0]) 4 48 Try.underlying22 hi hz0 hz1 hz2 rfl (by decide) _ _ _ rfl hoC2 ⟨wc.heap.size, 0, none⟩ 1 1 [.int .i64 f0, .int .i64 f1, .int .i64 f2, .slice aM fl cM] rfl rfl (cells_of_block4 ((bC.block _ (by simp)).trans (heap_alloc_new _ _))) (one_four _ _ _ _ _ _) (by unfold maxLen; omega) (by omega) hBC2.size ?_); intro v5 w5 hR5 hg5; obtain ⟨a5, c5, rfl, hF5, hB5⟩ := HAP.out _ _ rs _ _ hoC2 hBC2 HMM HEE hR5 hg5; clear hR5 hg5 HMM HEE hoC2 bC hBC2))
        all_goals
          go_wp2_with fail
          go_meet
          case rel => exact ⟨rfl, a6, c6, rfl, hcap6, hI6, hB5.trans (b6.mono hB5.size)⟩
      case rest =>
        obtain ⟨rfl, a6, c6, rfl, hcap6, hI6, hB6⟩ := hcut
        rename World => w6
        have hC6 := HC4.out.later hB6
        have hT6 := hI6.take C.length c6 (by omega)
        rw [HTK.out] at hT6
        clear HAP HEA HAN HCo
        have hd1 : ¬ (D.length : Int) < (C.length : Int) := by omega
        have hd2 : ¬ (C.length : Int) + 1 < (D.length : Int) := by omega
        have hcc : (C.length : Int) ≤ (c6 : Int) := by omega
        by_cases hpos : 0 < l.length
        · have hpos' : (0 : Int) < (l.length : Int) := by omega
          obtain ⟨hCp, hC0⟩ := hfirst hpos
          obtain ⟨gC, oC, rfl, hgC, -, hic⟩ := hC6.at hCp
          have hv : w6.cell? ⟨gC, oC, none⟩ = some (.int .i64 0) := by have := hic 0 hCp; rw [hC0] at this; simpa using this
          have hne : ((C.length : Int) == 0) = false := by rw [beq_eq_false_iff_ne]; omega
          clear hic hC0 hgC hfirst
          have hS := hSI _ _ _ _ w6 hT6 hC6
          clear hSI hT6 hC6
          go_wp2_with fail
          refine hS.mono ?_
          rintro e w8 ⟨rfl, q8, rfl⟩
          go_wp2_with fail
          go_ret
          exact ⟨rfl, by rw [HPW.out]; exact below_drewN (HD4.out.trans (hB6.mono hPz))⟩
        · have hpos' : ¬ (0 : Int) < (l.length : Int) := by omega
          have hS := hSI _ _ _ _ w6 hT6 hC6
          clear hSI hT6 hC6 hfirst
          go_wp2_with fail
          refine hS.mono ?_
          rintro e w8 ⟨rfl, q8, rfl⟩
          go_wp2_with fail
          go_ret
          exact ⟨rfl, by rw [HPW.out]; exact below_drewN (HD4.out.trans (hB6.mono hPz))⟩
  · rw [hg] at hG
    go_enter Try.func5, Try.ntmps5
    go_wp2_with fail
    refine (mergeAlive_any _).mono ?_
    rintro e w1 ⟨rfl, b1⟩
    go_wp2_with fail
    obtain ⟨d1, -, -, -, p3⟩ := HBX.out w1 b1
    refine (hG w1 (HI.out.later d1)).mono ?_
    rintro e w2 ⟨rfl, rfl⟩
    go_wp2_with fail
    go_ret
    exact ⟨rfl, d1⟩
end mergeFirst
end Go.Proofs.Ytkhpoeolnhfflaa
