/-
  close: a row closes what it can. Conditions: bounds on sizes.
-/
import Derived.Test.YtnijcglmfpiheaaEmphTurn
import Derived.Maps.AppendAt
import Derived.Deep.RegionLaw
import Derived.Deep.CutRange
set_option linter.unusedSimpArgs false
set_option linter.unusedVariables false
namespace Go.Proofs.Ytnijcglmfpiheaa
open Go.RowKit Go.Lib Go.WideMaps

/-- append TO AN OWN ROW, as one step of a region that draws. -/
theorem step_append_own {P : Program} {ops : Array Oper} {o : Oper} {a : Act} {w : World} {K : Act → World → Prop} {Q : Exit → Act → World → Prop} {E : Prop}
    (hg : o.guard = none) (s x : Operand) (t : TypeId) (hop : o.op = Op.call { callee := Callee.builtin Builtin.append, args := #[s, x], argTypes := #[t, t] })
    (base : Nat) (e : TypeId) (i : TypeInfo) (z : Value) (size bytes : Nat) (h1 : P.underlying t = some (.slice e)) (h2 : P.info? e = some i) (h3 : i.zero = some z) (h4 : i.size = size) (h5 : i.bytes = bytes) (h6 : z.cells.size = size) (h7 : 0 < size)
    (v : Value) (n : Nat) (xs : List Value) (hs : a.eval s = v) (hown : w.ownsRow base e size v n xs)
    (ad : Addr) (m c : Nat) (news : List Value) (hx : a.eval x = .slice (some ad) m c) (hn : news.length = m * size) (hc : ∀ j u, news[j]? = some u → w.cell? (ad.add j) = some u) (h1c : ∀ u ∈ news, u.oneCell' = true)
    (b1 : n + m ≤ maxLen) (b2 : (n + m) * bytes ≤ 140737488355328) (hbase : base ≤ w.heap.size)
    (hK : ∀ v' w', w'.ownsRow base e size v' (n + m) (xs ++ news) → w.grownBy w' v.ownBlock → K (a.put o.dst v') w') :
    if Region.wanted o (yielded ops a.tmps) = true then Oper.wp P o a w K Q else E := by
  have hw : Region.wanted o (yielded ops a.tmps) = true := by simp [Region.wanted, hg]
  rw [if_pos hw]
  obtain ⟨v', w', hrun, r1, r2, _⟩ := run_append_own (P := P) w base t o.type e i z size bytes h1 h2 h3 h4 h5 h6 h7 v n xs hown ad m c news hn hc h1c b1 b2 hbase
  unfold Oper.wp
  simp [execOp, hop, resolve, invoke, builtin, hs, hx, hrun, Result.andThen]
  exact hK v' w' r1 r2
theorem newPair {w : World} (a b c : Value) (T : TypeId) : ∀ (j : Nat) (u : Value), ([a, b, c] : List Value)[j]? = some u → (w.alloc (.cells #[a, b, c] T)).cell? ((⟨w.heap.size, 0, none⟩ : Addr).add j) = some u := by
  intro j u hu
  have hn := heap_alloc_new w (.cells #[a, b, c] T)
  rw [Addr.add_lit, Nat.zero_add]
  simp only [World.cell?, hn]
  simpa using hu
theorem onePair (p : PairP) : ∀ u ∈ pairC p, u.oneCell' = true := by
  intro u hu
  simp only [pairC, List.mem_cons, List.mem_nil_iff, or_false] at hu
  rcases hu with rfl | rfl | rfl <;> rfl
/-- How many marks the row at a place has left, read off the world. -/
def leftAt (r : Nat) (w : World) : Nat := match w.cell? ⟨r, 4, none⟩ with | some (.int _ x) => x.toNat | _ => 0
theorem leftAt_of {r : Nat} {w : World} {x : Int} (h : w.cell? ⟨r, 4, none⟩ = some (.int .i64 x)) : leftAt r w = x.toNat := by unfold leftAt; rw [h]
theorem opener_int {N : Nat} {ro : Option Nat} {l : List RunP} {m : Nat} {R : Nat → Nat} {S B n : Nat} {s : StP} (c : Nat) (hc : c < m) (hm : m ≤ l.length) (hok : ∀ r ∈ l, RunOk r) (hst : ∀ x ∈ s.stack, x < m ∧ 0 < s.left[x]!) (hsl : s.stack.length ≤ 1000000) (hn : n < maxLen) (w : World) (h : EmW N ro l m R S B n s w) {z : Int} (hz : openI l c s = z) :
    Calls Try.prog 46 #[.pointer (some ⟨S, 0, none⟩), .pointer (some ⟨R c, 0, none⟩)] w fun e w' => e = .returned (.int .i64 z) ∧ EmW N ro l m R S B (n + 1) s w' ∧ KeepP N w w' := hz ▸ opener_any c hc hm hok hst hsl hn w h
theorem cut_int {N : Nat} {ro : Option Nat} {l : List RunP} {m : Nat} {R : Nat → Nat} {S B n : Nat} {s : StP} (k : Nat) (z : Int) (hz : z = (k : Int)) (hk : k ≤ s.stack.length) (hsl : s.stack.length ≤ 1000000) (w : World) (h : EmW N ro l m R S B n s w) :
    Calls Try.prog 47 #[.pointer (some ⟨S, 0, none⟩), .int .i64 z] w fun e w' => e = .returned (.tuple #[]) ∧ EmW N ro l m R S B n { s with stack := s.stack.take k } w' ∧ KeepP N w w' := hz ▸ cut_any k hk hsl w h
/-- The stack is no longer than there are rows. -/
theorem good_len {l : List RunP} {c : Nat} {s : StP} (h : GoodP l c s) : s.stack.length ≤ c := by
  have aux : ∀ (t : List Nat) (a b : Nat), (∀ x ∈ t, a ≤ x ∧ x < b) → t.Pairwise (· < ·) → t.length ≤ b - a := by
    intro t
    induction t with
    | nil => intro a b _ _; simp
    | cons x t ih =>
      intro a b h1 h2
      have hx := h1 x (by simp)
      have := ih (x + 1) b (fun y hy => ⟨(List.pairwise_cons.1 h2).1 y hy, (h1 y (by simp [hy])).2⟩) (List.pairwise_cons.1 h2).2
      simp
      omega
  have := aux s.stack 0 c (fun x hx => ⟨Nat.zero_le _, (h.open_ x hx).1⟩) h.up
  omega

set_option maxRecDepth 100000 in
set_option maxHeartbeats 16000000 in
theorem close_any {N : Nat} {ro : Option Nat} {l : List RunP} {m : Nat} {R : Nat → Nat} {S B n : Nat} {s : StP} (c : Nat) (hc : c < m) (hm : m ≤ l.length) (hll : l.length ≤ 1000000) (hok : ∀ r ∈ l, RunOk r) (hG : GoodP l c s) (hn : n + s.left[c]!.toNat ≤ 2000000000000) (hp : s.pairs.length + s.left[c]!.toNat ≤ 2000000000000) (w : World) (h : EmW N ro l m R S B n s w) :
    Calls Try.prog 41 #[.pointer (some ⟨S, 0, none⟩), .pointer (some ⟨R c, 0, none⟩)] w fun e w' => e = .returned (.tuple #[]) ∧ EmW N ro l m R S B (n + s.left[c]!.toNat + 1) (closeP l c s) w' ∧ KeepP N w w' := by
  have mixed : Try.prog.follows Departure.mixedOrders = true := rfl
  obtain ⟨i0, hi, hz0, hz1, hz2⟩ := info_parts infoPair
  have hcl : c < l.length := by omega
  have H0 := Lib.hid h
  have HG := Lib.hid hG
  obtain ⟨hc4, -, -⟩ := h.rowCells hc
  clear h hG
  have hst0 : s.left[c]!.toNat ≤ s.left[c]!.toNat := Nat.le_refl _
  have hn0 : n + s.left[c]!.toNat ≤ n + s.left[c]!.toNat := Nat.le_refl _
  have HST0 : RowKit.Hid (n + s.left[c]!.toNat ≤ n + s.left[c]!.toNat ∧ s.pairs.length + s.left[c]!.toNat ≤ 2000000000000) := ⟨hn0, hp⟩
  generalize hLC : s.left[c]!.toNat = LC at hn hp hn0 HST0 ⊢
  clear hst0
  go_enter Try.func41, Try.ntmps41
  go_wp2_with fail
  go_loopw [4, 5, 6] (fun _ _ _ wr => ∃ (s' : StP) (n' : Nat), EmW N ro l m R S B n' s' wr ∧ KeepP N w wr ∧ GoodP l c s' ∧ RowKit.Hid (closeP l c s' = closeP l c s) ∧ n' + s'.left[c]!.toNat ≤ n + LC ∧ s'.pairs.length + s'.left[c]!.toNat ≤ 2000000000000) (fun _ _ _ wr => leftAt (R c) wr)
  case atStart => exact ⟨s, n, H0.out, KeepP.refl _ _, HG.out, (show _ = _ from rfl), by rw [hLC]; exact Nat.le_refl _, by rw [hLC]; exact hp⟩
  case round =>
    obtain ⟨s', n', hW, hK, hG, HC, hn', hp'⟩ := hrel
    clear hc4
    obtain ⟨hc4, -, hcf⟩ := hW.rowCells hc
    have hL0 := leftAt_of hc4
    have HL0 := Lib.hid hL0
    have HW := Lib.hid hW
    have HK := Lib.hid hK
    have HG' := Lib.hid hG
    by_cases hpos : 0 < s'.left[c]!
    · have hgl := good_len hG
      have hst : ∀ x ∈ s'.stack, x < m ∧ 0 < s'.left[x]! := fun x hx => by
        obtain ⟨h1, -, h2⟩ := hG.open_ x hx
        exact ⟨by omega, h2⟩
      have hnn : n' < maxLen := by unfold maxLen; omega
      cases ho : openP l c s' with
      | none =>
        have hE : RowKit.Hid (closeP l c s = s') := by
          show _ = _
          rw [← HC.out, closeP_none ho]
        have hop := opener_int c hc hm hok hst (by omega) hnn wr hW (openI_none ho)
        clear hW hK hG hL0 hst ho
        generalize s'.left[c]! = lc at *
        go_wp2_with fail
        refine hop.mono ?_
        rintro e w2 ⟨rfl, k1, k2⟩
        have K1 := Lib.hid k1
        have K2 := Lib.hid k2
        clear k1 k2 hop
        go_wp2_with fail
        refine bodyPost_ret (results_none rfl _ _ _) rfl ?_
        rw [hE.out]
        exact ⟨rfl, K1.out.more (by omega), HK.out.trans K2.out⟩
      | some i =>
        obtain ⟨hi1, -, -⟩ := openP_some ho
        obtain ⟨hG2, hlt2⟩ := pairP_good hG hcl hi1 hpos
        have hE2 : RowKit.Hid (closeP l c (pairP c i s') = closeP l c s) := by
          show _ = _
          rw [← HC.out]
          exact (closeP_step hG hcl hpos ho).symm
        have hop := opener_int c hc hm hok hst (by omega) hnn wr hW (openI_some ho)
        obtain ⟨hox, hopos⟩ := hst _ (nthN_mem hi1)
        have hoc : s'.stack[i]! < c := (hG.open_ _ (nthN_mem hi1)).1
        have hoL : s'.stack[i]! < s'.left.length := by rw [hG.len]; omega
        have hcL : c < s'.left.length := by rw [hG.len]; omega
        obtain ⟨t1, t2, t3, t4⟩ := takeN_pos hopos hpos
        have hlow := hG2.low
        have hcut := fun (k : Nat) (z : Int) (hz : z = (k : Int)) (st : List Nat) (lf : List Int) (ps : List PairP) (hst : st = s'.stack ∨ st = s'.stack.take (i + 1)) (hk : k ≤ st.length) (X : World) (hX : EmW N ro l m R S B (n' + 1) ⟨st, lf, ps⟩ X) => cut_int k z hz hk (by show st.length ≤ _; rcases hst with rfl | rfl; omega; rw [List.length_take]; omega) X hX
        have HPP : RowKit.Hid (pairP c i s' = ⟨if s'.left[s'.stack[i]!]! - takeN s'.left[s'.stack[i]!]! s'.left[c]! = 0 then s'.stack.take i else s'.stack.take (i + 1), (s'.left.set s'.stack[i]! (s'.left[s'.stack[i]!]! - takeN s'.left[s'.stack[i]!]! s'.left[c]!)).set c (s'.left[c]! - takeN s'.left[s'.stack[i]!]! s'.left[c]!), s'.pairs ++ [⟨s'.stack[i]!, c, takeN s'.left[s'.stack[i]!]! s'.left[c]!⟩]⟩) := rfl
        have HTK : RowKit.Hid (min s'.left[s'.stack[i]!]! (min s'.left[c]! 2) = takeN s'.left[s'.stack[i]!]! s'.left[c]!) := by show _ = _; unfold takeN; omega
        have hpl : (pairP c i s').left[c]! = s'.left[c]! - takeN s'.left[s'.stack[i]!]! s'.left[c]! := get_set_eq (by simpa using hcL)
        have HPL := Lib.hid hpl
        have HOC : RowKit.Hid (s'.stack[i]! ≠ c) := by show _ ≠ _; omega
        have HOX := Lib.hid hox
        have HOL := Lib.hid hoL
        have HCL := Lib.hid hcL
        have HG2 := Lib.hid hG2
        have HI1 := Lib.hid hi1
        have hhi := hG.high _ (nth_mem hoL)
        have hhc := hG.high _ (nth_mem hcL)
        rw [hpl] at hlt2
        have hgl6 : s'.stack.length ≤ 1000000 := by omega
        clear hW hK hG hL0 hst ho hG2 hlow hpl hox hoL hcL hoc hi1 hgl hnn
        have HGET : RowKit.Hid (∀ X, EmW N ro l m R S B (n' + 1) s' X → ∃ g scap vp, (X.heap[S]? = some (.cells #[.slice (some ⟨g, 0, none⟩) s'.stack.length scap, .map (some B), vp] 79) ∧ X.ownsRow N 68 1 (.slice (some ⟨g, 0, none⟩) s'.stack.length scap) s'.stack.length (s'.stack.map (ptrC R)) ∧ X.ownsRow N 40 3 vp s'.pairs.length (pairCells s'.pairs) ∧ ((Value.slice (some ⟨g, 0, none⟩) s'.stack.length scap).ownBlock = none ∨ (Value.slice (some ⟨g, 0, none⟩) s'.stack.length scap).ownBlock ≠ ro)) ∧ X.cell? ⟨g, i, none⟩ = some (.pointer (some ⟨R s'.stack[i]!, 0, none⟩))) := fun X k1 => by
          obtain ⟨vs, vp, hS, hvs, hvp, hro⟩ := k1.sol
          obtain ⟨g, cap, eg, hgl2, hgc⟩ := own_cell1 hvs HI1.out
          subst eg
          rw [List.getElem?_map, List.getElem?_eq_getElem HI1.out, Option.map_some, ← getElem!_pos s'.stack i HI1.out] at hgc
          exact ⟨g, cap, vp, ⟨hS, hvs, hvp, hro⟩, hgc⟩
        generalize hob : s'.stack[i]! = ob at *
        generalize hlo : s'.left[ob]! = lo at *
        generalize hlc : s'.left[c]! = lc at *
        generalize takeN lo lc = tk at *
        have HLO := Lib.hid hlo
        have HLC := Lib.hid hlc
        clear hob hlo hlc hLC
        go_wp2_with fail
        refine hop.mono ?_
        rintro e w2 ⟨rfl, k1, k2⟩
        clear hop
        obtain ⟨g, scap, vp, ⟨hS, hvs, hvp, hro⟩, hgc⟩ := HGET.out w2 k1
        obtain ⟨s0, s1, s2, -⟩ := block_three hS
        obtain ⟨o4, o5, of⟩ := k1.rowCells HOX.out
        obtain ⟨c4, c5, cf⟩ := k1.rowCells hc
        rw [HLO.out] at o4
        rw [HLC.out] at c4
        have K1 := Lib.hid k1
        have K2 := Lib.hid k2
        have HS := Lib.hid hS
        have HVS := Lib.hid hvs
        have HVP := Lib.hid hvp
        have HRO := Lib.hid hro
        clear k1 k2 hS hvs hvp hro HGET hcut
        have hij : (i : Int) < (s'.stack.length : Int) := by have := HI1.out; omega
        go_wp2_with fail
        go_quiet (fail)
        rw [HTK.out]
        go_wp2_with fail
        have Hq : ∀ (p : Addr) (v : Value), w2.cell? p = some v → (w2.drewN nq).cell? p = some v := fun _ _ h => h
        replace s0 := Hq _ _ s0; replace s1 := Hq _ _ s1; replace s2 := Hq _ _ s2; replace hgc := Hq _ _ hgc
        replace o4 := Hq _ _ o4; replace o5 := Hq _ _ o5; replace c4 := Hq _ _ c4; replace c5 := Hq _ _ c5
        have hbq : Below w2.heap.size w2 (w2.drewN nq).drew := (below_drewN (Below.refl _ w2)).drew
        have KD := Lib.hid (K1.out.later hbq)
        have KK : RowKit.Hid (KeepP N w (w2.drewN nq).drew) := HK.out.trans (K2.out.trans (KeepP.of_below hbq (by have := K1.out.nS; have := K1.out.lt.1; omega)))
        have HSd : RowKit.Hid ((w2.drewN nq).drew.heap[S]? = some (.cells #[.slice (some ⟨g, 0, none⟩) s'.stack.length scap, .map (some B), vp] 79)) := HS.out
        have HVd : RowKit.Hid ((w2.drewN nq).drew.ownsRow N 68 1 (.slice (some ⟨g, 0, none⟩) s'.stack.length scap) s'.stack.length (s'.stack.map (ptrC R))) := HVS.out
        have hVp : (w2.drewN nq).drew.ownsRow N 40 3 vp s'.pairs.length (pairCells s'.pairs) := HVP.out
        have hNd : N ≤ (w2.drewN nq).drew.heap.size := by have := K1.out.nS; have := K1.out.lt.1; show N ≤ w2.heap.size; omega
        clear Hq K1 K2 HK HS HVS HVP of cf hcf hc4 hbq
        generalize w2.drewN nq = wq at *
        have hBA : Below wq.heap.size wq (wq.alloc (.cells #[.int .i64 ob, .int .i64 c, .int .i64 tk] 40)) := (Below.refl _ wq).alloc (Nat.le_refl _) _
        have z2 : (wq.alloc (.cells #[.int .i64 ob, .int .i64 c, .int .i64 tk] 40)).cell? ⟨S, 2, none⟩ = some vp := (hBA.cell (p := ⟨S, 2, none⟩) (Array.getElem?_eq_some_iff.1 HSd.out).1).trans s2
        have zo : (wq.alloc (.cells #[.int .i64 ob, .int .i64 c, .int .i64 tk] 40)).cell? ⟨R ob, 5, none⟩ = some (.int .i64 ob) := (hBA.cell (p := ⟨R ob, 5, none⟩) (KD.out.lt.2.2 ob HOX.out)).trans o5
        have zc : (wq.alloc (.cells #[.int .i64 ob, .int .i64 c, .int .i64 tk] 40)).cell? ⟨R c, 5, none⟩ = some (.int .i64 c) := (hBA.cell (p := ⟨R c, 5, none⟩) (KD.out.lt.2.2 c hc)).trans c5
        have HF : RowKit.Hid (∀ v5 w5, w5.ownsRow N 40 3 v5 (s'.pairs.length + 1) (pairCells s'.pairs ++ [.int .i64 ob, .int .i64 c, .int .i64 tk]) → (wq.drew.alloc (.cells #[.int .i64 ob, .int .i64 c, .int .i64 tk] 40)).grownBy w5 vp.ownBlock →
            (w5.cell? ⟨S, 2, none⟩ = some vp ∧ w5.frozen? ⟨S, 2, none⟩ = false) ∧ RowKit.Hid (EmW N ro l m R S B (n' + 1) ⟨s'.stack, s'.left, s'.pairs ++ [⟨ob, c, tk⟩]⟩ (w5.setCell ⟨S, 2, none⟩ v5) ∧ KeepP N w (w5.setCell ⟨S, 2, none⟩ v5))) := fun v5 w5 h5 hg => by
          obtain ⟨⟨q1, q2⟩, q3⟩ := KD.out.addPair (p := ⟨ob, c, tk⟩) HSd.out HVd.out hVp HRO.out ((Below.refl _ wq.drew).alloc (Nat.le_refl _) (.cells #[.int .i64 ob, .int .i64 c, .int .i64 tk] 40)) h5 hg
          obtain ⟨-, -, x2, x3⟩ := block_three q3
          exact ⟨⟨x2, by simp [World.frozen?, q3]⟩, q1, KK.out.trans q2⟩
        clear o4 c4 hgc hBA
        go_cut [4, 5, 6] from 7 to 79 (fun iv ov tv wc => iv = .int .i64 i ∧ ov = .pointer (some ⟨R ob, 0, none⟩) ∧ tv = .int .i64 tk ∧ EmW N ro l m R S B (n' + 1) ⟨s'.stack, s'.left, s'.pairs ++ [⟨ob, c, tk⟩]⟩ wc ∧ KeepP N w wc)
        case first =>
          go_region_law (first | ((refine step_append_own rfl _ _ 33 rfl N 40 i0 (.agg #[.int .i64 0, .int .i64 0, .int .i64 0]) 3 24 Try.underlying33 hi hz0 hz1 hz2 rfl (by decide) _ _ _ rfl (hVp.alloc _) ⟨wq.heap.size, 0, none⟩ 1 1 [.int .i64 ob, .int .i64 c, .int .i64 tk] rfl rfl (newPair _ _ _ _) (onePair ⟨ob, c, tk⟩) (by unfold maxLen; omega) (by omega) (Nat.le_trans hNd (by simp)) ?_); intro v5 w5 hR5 hg5; obtain ⟨a5, cp5, rfl, -⟩ := ownsRow_slice hR5; obtain ⟨⟨y2, y3⟩, HY⟩ := HF.out _ w5 hR5 hg5))
          all_goals
            go_wp2_with fail
            go_meet
            case rel => exact ⟨rfl, rfl, rfl, HY.out⟩
        case rest =>
          clear HF z2 zo zc KD KK HSd HVd hVp hNd s0 s1 s2 o5 c5
          obtain ⟨rfl, rfl, rfl, k5, kk5⟩ := hcut
          obtain ⟨o4, -, of⟩ := k5.rowCells HOX.out
          replace o4 : wc.cell? ⟨R ob, 4, none⟩ = some (.int .i64 s'.left[ob]!) := o4
          rw [HLO.out] at o4
          obtain ⟨r1, r2⟩ := k5.setLeft HOX.out HOL.out (lo - tk)
          replace r1 : EmW N ro l m R S B (n' + 1) ⟨s'.stack, s'.left.set ob (lo - tk), s'.pairs ++ [⟨ob, c, tk⟩]⟩ (wc.setCell ⟨R ob, 4, none⟩ (.int .i64 (lo - tk))) := r1
          obtain ⟨c4, -, cf⟩ := r1.rowCells hc
          have hlc' : (s'.left.set ob (lo - tk))[c]! = lc := by rw [get_set_ne HOC.out, HLC.out]
          replace c4 : (wc.setCell ⟨R ob, 4, none⟩ (.int .i64 (lo - tk))).cell? ⟨R c, 4, none⟩ = some (.int .i64 (s'.left.set ob (lo - tk))[c]!) := c4
          rw [hlc'] at c4
          obtain ⟨u1, u2⟩ := r1.setLeft hc (by simpa using HCL.out) (lc - tk)
          have HU1 : RowKit.Hid (EmW N ro l m R S B (n' + 1) ⟨s'.stack, (s'.left.set ob (lo - tk)).set c (lc - tk), s'.pairs ++ [⟨ob, c, tk⟩]⟩ ((wc.setCell ⟨R ob, 4, none⟩ (.int .i64 (lo - tk))).setCell ⟨R c, 4, none⟩ (.int .i64 (lc - tk)))) := u1
          have HU2 : RowKit.Hid (KeepP N w ((wc.setCell ⟨R ob, 4, none⟩ (.int .i64 (lo - tk))).setCell ⟨R c, 4, none⟩ (.int .i64 (lc - tk)))) := kk5.trans (r2.trans u2)
          clear k5 kk5 r1 r2 u1 u2 hlc'
          go_wp2_with fail
          refine (cut_int (s := ⟨s'.stack, (s'.left.set ob (lo - tk)).set c (lc - tk), s'.pairs ++ [⟨ob, c, tk⟩]⟩) (i + 1) _ (by omega) (by show i + 1 ≤ s'.stack.length; have := HI1.out; omega) hgl6 _ HU1.out).mono ?_
          rintro e w9 ⟨rfl, k9, kk9⟩
          obtain ⟨o4, -, -⟩ := k9.rowCells HOX.out
          replace o4 : w9.cell? ⟨R ob, 4, none⟩ = some (.int .i64 ((s'.left.set ob (lo - tk)).set c (lc - tk))[ob]!) := o4
          rw [get_set_ne (Ne.symm HOC.out), get_set_eq HOL.out] at o4
          have hn9 : n' + 1 + (lc - tk).toNat ≤ n + LC ∧ (s'.pairs ++ [⟨ob, c, tk⟩] : List PairP).length + (lc - tk).toNat ≤ 2000000000000 := by
            rw [List.length_append]
            simp only [List.length_singleton]
            omega
          have K9 := Lib.hid k9
          have KK9 := Lib.hid (HU2.out.trans kk9)
          have HN9 := Lib.hid hn9
          clear k9 kk9 HU1 HU2 of cf c4 hn9
          by_cases hz : lo - tk = 0
          · rw [hz] at o4
            rw [if_pos hz] at HPP
            have HPP2 : RowKit.Hid (EmW N ro l m R S B (n' + 1) (pairP c i s') = EmW N ro l m R S B (n' + 1) ⟨(s'.stack.take (i + 1)).take i, (s'.left.set ob (lo - tk)).set c (lc - tk), s'.pairs ++ [⟨ob, c, tk⟩]⟩) := by
              show _ = _
              rw [HPP.out, List.take_take, Nat.min_eq_left (Nat.le_succ i)]
            clear hz
            go_wp2_with fail
            refine (cut_int (s := ⟨s'.stack.take (i + 1), (s'.left.set ob (lo - tk)).set c (lc - tk), s'.pairs ++ [⟨ob, c, tk⟩]⟩) i _ rfl (by show i ≤ (s'.stack.take (i + 1)).length; rw [List.length_take]; have := HI1.out; omega) (by show (s'.stack.take (i + 1)).length ≤ _; rw [List.length_take]; omega) _ K9.out).mono ?_
            rintro e wz ⟨rfl, kz, kkz⟩
            have KZ : RowKit.Hid (EmW N ro l m R S B (n' + 1) (pairP c i s') wz) := by
              show EmW N ro l m R S B (n' + 1) (pairP c i s') wz
              rw [HPP2.out]
              exact kz
            have KKZ := Lib.hid (KK9.out.trans kkz)
            clear kz kkz K9 KK9 HPP2
            go_wp2_with fail
            go_roundw
            case rel => exact ⟨_, _, KZ.out, KKZ.out, HG2.out, hE2, by rw [HPL.out]; exact HN9.out.1, by rw [HPL.out, HPP.out]; exact HN9.out.2⟩
            case measure => rw [HL0.out, leftAt_of (KZ.out.rowCells hc).1, HPL.out]; omega
          · rw [if_neg hz] at HPP
            have KZ : RowKit.Hid (EmW N ro l m R S B (n' + 1) (pairP c i s') w9) := by
              show EmW N ro l m R S B (n' + 1) (pairP c i s') w9
              rw [HPP.out]
              exact K9.out
            go_wp2_with fail
            go_roundw
            case rel => exact ⟨_, _, KZ.out, KK9.out, HG2.out, hE2, by rw [HPL.out]; exact HN9.out.1, by rw [HPL.out, HPP.out]; exact HN9.out.2⟩
            case measure => rw [HL0.out, leftAt_of (KZ.out.rowCells hc).1, HPL.out]; omega
    · have hE : RowKit.Hid (closeP l c s = s') := by
        show _ = _
        rw [← HC.out, closeP_done (by omega)]
      clear hW hK hG hL0
      generalize s'.left[c]! = lc at *
      go_wp2_with fail
      go_end0
      rw [hE.out]
      exact ⟨rfl, HW.out.more (by omega), HK.out⟩
end Go.Proofs.Ytnijcglmfpiheaa
