/-
  opener: the place in the stack of the row that goes with one that closes, or -1. Conditions: bounds on sizes.
-/
import Derived.Test.YtnijcglmfpiheaaEmphFits
import Derived.BigRegion
import Derived.BigQuiet
set_option linter.unusedSimpArgs false
set_option linter.unusedVariables false
namespace Go.Proofs.Ytnijcglmfpiheaa
open Go.RowKit Go.Lib

def openI (l : List RunP) (c : Nat) (s : StP) : Int := match openP l c s with | some i => (i : Int) | none => -1
theorem openI_some {l : List RunP} {c i : Nat} {s : StP} (h : openP l c s = some i) : openI l c s = (i : Int) := by unfold openI; rw [h]
theorem openI_none {l : List RunP} {c : Nat} {s : StP} (h : openP l c s = none) : openI l c s = -1 := by unfold openI; rw [h]
theorem EmW.more {N : Nat} {ro : Option Nat} {l : List RunP} {m : Nat} {R : Nat → Nat} {S B n n' : Nat} {s : StP} {w : World} (h : EmW N ro l m R S B n s w) (hn : n ≤ n') : EmW N ro l m R S B n' s w := by
  obtain ⟨D, h1, h2⟩ := h.bot
  exact ⟨h.nS, h.nB, h.nR, h.inj, h.row, h.sol, D, h1.mono hn, h2⟩
theorem ownsMap_below {w w' : World} {b n : Nat} {P : Program} {k : TypeId} {R : Value → Option (DataW Unit × List MemPlace)} {D : DataW Unit} (h : w.ownsMap P k R b n D) (hb : Below w.heap.size w w') : w'.ownsMap P k R b n D := by
  have hlt := h.lt
  obtain ⟨es, clock, hes, rest⟩ := h
  exact ⟨es, clock, (hb.block _ hlt).trans hes, rest⟩
theorem zeroInt (w : World) : (zeroValue 3).run Try.prog w = .ok (.int .i64 0) w := by kernel_rfl
theorem own_cell1 {w : World} {N : Nat} {T : TypeId} {v : Value} {n : Nat} {xs : List Value} (h : w.ownsRow N T 1 v n xs) {j : Nat} (hj : j < n) : ∃ g cap, v = .slice (some ⟨g, 0, none⟩) n cap ∧ g < w.heap.size ∧ w.cell? ⟨g, j, none⟩ = xs[j]? := by
  rcases h.2 with ⟨rfl, h0⟩ | ⟨g, cap, cur, rfl, hg, hh, hc, hm, hs, ht⟩
  · omega
  · refine ⟨g, cap, rfl, (Array.getElem?_eq_some_iff.1 hh).1, ?_⟩
    rw [← ht, List.getElem?_take_of_lt (by omega)]
    simp only [World.cell?, hh]
    simp

set_option maxRecDepth 100000 in
set_option maxHeartbeats 16000000 in
theorem opener_any {N : Nat} {ro : Option Nat} {l : List RunP} {m : Nat} {R : Nat → Nat} {S B n : Nat} {s : StP} (c : Nat) (hc : c < m) (hm : m ≤ l.length) (hok : ∀ r ∈ l, RunOk r) (hst : ∀ x ∈ s.stack, x < m ∧ 0 < s.left[x]!) (hsl : s.stack.length ≤ 1000000) (hn : n < maxLen) (w : World) (h : EmW N ro l m R S B n s w) :
    Calls Try.prog 46 #[.pointer (some ⟨S, 0, none⟩), .pointer (some ⟨R c, 0, none⟩)] w fun e w' => e = .returned (.int .i64 (openI l c s)) ∧ EmW N ro l m R S B (n + 1) s w' ∧ KeepP N w w' := by
  have mixed : Try.prog.follows Departure.mixedOrders = true := rfl
  obtain ⟨lS, lB, lR⟩ := h.lt
  obtain ⟨vs, vp, hS, hvs, -, -⟩ := h.sol
  obtain ⟨D, hD, hBI⟩ := h.bot
  have hcl : c < l.length := by omega
  have hokc : RunOk l[c]! := hok _ (by rw [getElem!_pos l c hcl]; exact List.getElem_mem hcl)
  obtain ⟨kl, hkl⟩ := kindV_key hokc
  obtain ⟨b, hb1, hb2, hb3⟩ := hBI kl
  have hb3 := hb3 c hcl hkl
  obtain ⟨sa, scap, rfl, -⟩ := ownsRow_slice hvs
  have t3 := tmod3 l[c]!.n
  -- what stands at every later world
  have HX : RowKit.Hid (∀ X, Below w.heap.size w X → (X.cell? ⟨S, 0, none⟩ = some (.slice sa s.stack.length scap) ∧ X.cell? ⟨S, 1, none⟩ = some (.map (some B))) ∧ X.cell? ⟨R c, 0, none⟩ = some (.int .u8 l[c]!.mark) ∧ X.cell? ⟨R c, 1, none⟩ = some (.int .i64 l[c]!.n) ∧ X.cell? ⟨R c, 2, none⟩ = some (.bool l[c]!.op) ∧ X.cell? ⟨R c, 3, none⟩ = some (.bool l[c]!.cl) ∧ X.cell? ⟨R c, 4, none⟩ = some (.int .i64 s.left[c]!) ∧ X.cell? ⟨R c, 5, none⟩ = some (.int .i64 c)) := fun X hX => by
    obtain ⟨a0, a1, -⟩ := block_three ((hX.block _ lS).trans hS)
    obtain ⟨c0, c1, c2, c3, c4, c5, -⟩ := cells_six ((hX.block _ (lR c hc)).trans (h.row c hc))
    exact ⟨⟨a0, a1⟩, c0, c1, c2, c3, c4, c5⟩
  have HL : RowKit.Hid (∀ X, Below w.heap.size w X → (Instr.lookup 77 (.map (some B)) (.agg #[.int .u8 l[c]!.mark, .bool l[c]!.op, .int .i64 (l[c]!.n.tmod 3)]) false).run Try.prog X = .ok (.int .i64 (b : Int)) X) := fun X hX => by
    obtain ⟨z, hrun, hat, -⟩ := (ownsMap_below hD hX).lookup_int kindLaw Try.underlying77 Try.underlying3 (zeroInt _) hkl
    rw [hb1] at hat
    injection hat with hat
    injection hat with _ hat
    rw [hat]; exact hrun
  have HO : RowKit.Hid (∀ X, Below w.heap.size w X → ∀ j (hj : j < s.stack.length), ∃ g, sa = some ⟨g, 0, none⟩ ∧ X.cell? ⟨g, j, none⟩ = some (.pointer (some ⟨R s.stack[j]!, 0, none⟩)) ∧ X.cell? ⟨R s.stack[j]!, 0, none⟩ = some (.int .u8 l[s.stack[j]!]!.mark) ∧ X.cell? ⟨R s.stack[j]!, 1, none⟩ = some (.int .i64 l[s.stack[j]!]!.n) ∧ X.cell? ⟨R s.stack[j]!, 2, none⟩ = some (.bool l[s.stack[j]!]!.op) ∧ X.cell? ⟨R s.stack[j]!, 3, none⟩ = some (.bool l[s.stack[j]!]!.cl) ∧ X.cell? ⟨R s.stack[j]!, 4, none⟩ = some (.int .i64 s.left[s.stack[j]!]!) ∧ X.cell? ⟨R s.stack[j]!, 5, none⟩ = some (.int .i64 (s.stack[j]! : Nat))) := fun X hX j hj => by
    obtain ⟨g, cap, e, hg, hcell⟩ := own_cell1 hvs hj
    injection e with e1
    have hx := (hst _ (nthN_mem hj)).1
    obtain ⟨c0, c1, c2, c3, c4, c5, -⟩ := cells_six ((hX.block _ (lR _ hx)).trans (h.row _ hx))
    refine ⟨g, e1, ?_, c0, c1, c2, c3, c4, c5⟩
    rw [hX.cell (p := ⟨g, j, none⟩) hg, hcell, List.getElem?_map, List.getElem?_eq_getElem hj, getElem!_pos s.stack j hj]; rfl
  have HPOS : RowKit.Hid (∀ j, j < s.stack.length → 0 < s.left[s.stack[j]!]!) := fun j hj => (hst _ (nthN_mem hj)).2
  have HFOUND : RowKit.Hid (∀ (j : Nat) X, j < s.stack.length → goesAt l c s.stack j = true → (∀ k, j < k → k < s.stack.length → goesAt l c s.stack k = false) → Below w.heap.size w X → openI l c s = (j : Int) ∧ EmW N ro l m R S B (n + 1) s X ∧ KeepP N w X) := fun j X hj hg hmore hX => ⟨openI_some (topP_is hj hg hmore), (h.later hX).more (Nat.le_succ _), KeepP.of_below hX (by have := h.nS; omega)⟩
  have HMISS : RowKit.Hid ((∀ j, j < s.stack.length → goesAt l c s.stack j = false) → ∀ X Y, Below w.heap.size w X → Y.ownsMap Try.prog 92 (plainElem Try.prog 3) B (n + 1) (D.put kl (.lit (.int .i64 (s.stack.length : Int)))) → X.grownBy Y (some B) → openI l c s = -1 ∧ EmW N ro l m R S B (n + 1) s Y ∧ KeepP N w Y) := fun hall X Y hX hY hg => by
    obtain ⟨k1, k2⟩ := (h.later hX).turnB hg hY (botI_miss hBI ((hD.tidy kindLaw).isMap) hcl hkl hall)
    exact ⟨openI_none (topP_no hall), k1, (KeepP.of_below hX (by have := h.nS; omega)).trans k2⟩
  have HDX : RowKit.Hid (∀ X, Below w.heap.size w X → X.ownsMap Try.prog 92 (plainElem Try.prog 3) B n D) := fun X hX => ownsMap_below hD hX
  have HKL := Lib.hid hkl
  have HB3 := Lib.hid hb3
  have HG : RowKit.Hid (∀ j, goesAt l c s.stack j = ((l[s.stack[j]!]!.mark == l[c]!.mark) && fitsP l[s.stack[j]!]! l[c]!)) := fun j => rfl
  clear h hS hvs hD hBI hokc hkl hb3 hst hok hb1 lS lB lR
  generalize hL : s.stack.length = L at *
  clear hL
  generalize l[c]! = rc at *
  obtain ⟨⟨s0, s1⟩, c0, c1, c2, c3, c4, c5⟩ := HX.out w (Below.refl _ _)
  have HKC : RowKit.Hid (∀ X : World, X.heap[w.heap.size]? = some (.cells #[.int .u8 rc.mark, .bool rc.op, .int .i64 (rc.n.tmod 3)] 92) → X.cell? ⟨w.heap.size, 0, none⟩ = some (.int .u8 rc.mark) ∧ X.cell? ⟨w.heap.size, 1, none⟩ = some (.bool rc.op) ∧ X.cell? ⟨w.heap.size, 2, none⟩ = some (.int .i64 (rc.n.tmod 3))) := fun X h => by
    obtain ⟨k0, k1, k2, -⟩ := block_three h
    exact ⟨k0, k1, k2⟩
  obtain ⟨-, e0, e1, e2, -⟩ := HX.out (w.alloc (.cells #[.int .u8 0, .bool false, .int .i64 0] 92)) ((Below.refl _ w).alloc (Nat.le_refl _) _)
  obtain ⟨⟨g0, g1⟩, -⟩ := HX.out (w.alloc (.cells #[.int .u8 rc.mark, .bool rc.op, .int .i64 (rc.n.tmod 3)] 92)) ((Below.refl _ w).alloc (Nat.le_refl _) _)
  go_enter Try.func46, Try.ntmps46
  go_wp2_with fail
  go_region
  go_wp2_with fail
  go_loopw [6, 7] (fun iv _ wr => ∃ i : Nat, i ≤ L ∧ iv = .int .i64 ((i : Int) - 1) ∧ Below w.heap.size w wr ∧ wr.heap[w.heap.size]? = some (.cells #[.int .u8 rc.mark, .bool rc.op, .int .i64 (rc.n.tmod 3)] 92) ∧ RowKit.Hid (∀ k, i ≤ k → k < L → goesAt l c s.stack k = false)) (fun iv _ _ => (RowKit.intOf iv + 1).toNat)
  case atStart => exact ⟨L, Nat.le_refl _, rfl, ((Below.refl _ w).alloc (Nat.le_refl _) _).drew, heap_alloc_new w _, fun k h1 h2 => by omega⟩
  case round =>
    clear s0 s1 c0 c1 c2 c3 c4 c5 e0 e1 e2 g0 g1
    obtain ⟨i, hi, rfl, hb, hK, HN⟩ := hrel
    obtain ⟨⟨s0, s1⟩, c0, c1, c2, c3, c4, c5⟩ := HX.out wr hb
    obtain ⟨k0, k1, k2⟩ := HKC.out wr hK
    have hlk := HL.out wr hb
    have hlk2 := fun n => HL.out (wr.drewN n) (below_drewN hb)
    have HBW := Lib.hid hb
    have hKW := Lib.hid hK
    by_cases hgi : (b : Int) ≤ (i : Int) - 1
    · obtain ⟨j, rfl⟩ : ∃ j, i = j + 1 := ⟨i - 1, by omega⟩
      rw [show ((j + 1 : Nat) : Int) - 1 = (j : Int) by omega] at hgi ⊢
      have hge : (b : Int) ≤ (j : Int) := hgi
      clear hgi
      · have hj0 : (0 : Int) ≤ (j : Int) := by omega
        have hjL : (j : Int) < (L : Int) := by omega
        obtain ⟨g, rfl, p0, r0, r1, r2, r3, r4, r5⟩ := HO.out wr hb j (by omega)
        have hpos := HPOS.out j (by omega)
        have hgo := HG.out j
        have HGT : RowKit.Hid (goesAt l c s.stack j = true → openI l c s = (j : Int) ∧ EmW N ro l m R S B (n + 1) s wr ∧ KeepP N w wr) := fun h => HFOUND.out j wr (by omega) h (fun k h1 h2 => HN.out k (by omega) h2) hb
        have HGF : RowKit.Hid (goesAt l c s.stack j = false → ∀ k, j ≤ k → k < L → goesAt l c s.stack k = false) := fun h k h1 h2 => by
          rcases Nat.lt_or_ge j k with h3 | h3
          · exact HN.out k (by omega) h2
          · obtain rfl : k = j := by omega
            exact h
        have HGT2 : RowKit.Hid (∀ X, Below wr.heap.size wr X → goesAt l c s.stack j = true → openI l c s = (j : Int) ∧ EmW N ro l m R S B (n + 1) s X ∧ KeepP N w X) := fun X hX h => HFOUND.out j X (by omega) h (fun k h1 h2 => HN.out k (by omega) h2) (hb.trans (hX.mono hb.size))
        clear HN HFOUND HMISS HO HL HDX HKL HB3 HG HPOS HX hb2
        generalize R s.stack[j]! = rx at *
        generalize l[s.stack[j]!]! = ro' at *
        generalize s.left[s.stack[j]!]! = lx at *
        generalize (s.stack[j]! : Nat) = nx at *
        clear hb hK
        go_wp2_with fail
        go_quiet (fail)
        go_wp2_with fail
        have Hq : ∀ (p : Addr) (v : Value), wr.cell? p = some v → (wr.drewN nq).cell? p = some v := fun _ _ h => h
        replace r0 := Hq _ _ r0; replace r1 := Hq _ _ r1; replace r2 := Hq _ _ r2; replace r3 := Hq _ _ r3; replace r4 := Hq _ _ r4; replace r5 := Hq _ _ r5
        replace c0 := Hq _ _ c0; replace c1 := Hq _ _ c1; replace c2 := Hq _ _ c2; replace c3 := Hq _ _ c3; replace c4 := Hq _ _ c4; replace c5 := Hq _ _ c5
        have HBQ : RowKit.Hid (Below w.heap.size w (wr.drewN nq)) := below_drewN HBW.out
        have HKQ : RowKit.Hid ((wr.drewN nq).heap[w.heap.size]? = some (.cells #[.int .u8 rc.mark, .bool rc.op, .int .i64 (rc.n.tmod 3)] 92)) := hKW.out
        have HGQ : RowKit.Hid (∀ X, Below (wr.drewN nq).heap.size (wr.drewN nq) X → goesAt l c s.stack j = true → openI l c s = (j : Int) ∧ EmW N ro l m R S B (n + 1) s X ∧ KeepP N w X) := fun X hX => HGT2.out X ⟨hX.os, hX.tape, hX.output, hX.size, hX.block⟩
        clear Hq HBW hKW HGT HGT2 k0 k1 k2 hlk hlk2 p0 s0 s1
        generalize wr.drewN nq = wq at *
        by_cases hmk : ro'.mark = rc.mark
        · have hmb : (ro'.mark == rc.mark) = true := beq_iff_eq.2 hmk
          rw [hmb, Bool.true_and] at hgo
          obtain ⟨om, on', oo, oc⟩ := ro'
          dsimp only at hmk hmb r0 r1 r2 r3 hgo
          subst hmk
          clear hmb
          have hlx : lx > 0 := hpos
          go_still_tail 25, (by kernel_rfl)
          change wpList _ _ _ _ _ wq.drew
          generalize hwd : wq.drew = wd
          have hbd : Below wq.heap.size wq wd := by rw [← hwd]; exact (Below.refl _ _).drew
          clear hwd
          go_wp2_with fail
          refine (fits_any ⟨rc.mark, on', oo, oc⟩ rc _ _ _ _ wd).mono ?_
          rintro e w9 ⟨rfl, b9⟩
          have hb9 := hbd.trans (b9.mono hbd.size)
          cases hf : fitsP ⟨rc.mark, on', oo, oc⟩ rc
          · rw [hf] at hgo
            go_wp2_with fail
            go_roundw
            case rel => exact ⟨j, by omega, rfl, HBQ.out.trans (hb9.mono HBQ.out.size), (hb9.block _ (Array.getElem?_eq_some_iff.1 HKQ.out).1).trans HKQ.out, HGF.out hgo⟩
            case measure => simp [RowKit.intOf]
          · rw [hf] at hgo
            go_wp2_with fail
            go_ret
            obtain ⟨q1, q2, q3⟩ := HGQ.out _ hb9 hgo
            exact ⟨by rw [q1]; rfl, q2, q3⟩
        · have hmb : (ro'.mark == rc.mark) = false := beq_eq_false_iff_ne.2 hmk
          rw [hmb, Bool.false_and] at hgo
          go_quiet (fail)
          go_wp2_with fail
          go_roundw
          case rel => exact ⟨j, by omega, rfl, below_drewN HBQ.out, HKQ.out, HGF.out hgo⟩
          case measure => simp [RowKit.intOf]
    · have HALL : RowKit.Hid (∀ k, k < L → goesAt l c s.stack k = false) := fun k hk => by
        rcases Nat.lt_or_ge k i with h1 | h1
        · exact HB3.out k (by omega)
        · exact HN.out k h1 hk
      have HMQ : RowKit.Hid (∀ X Y, Below wr.heap.size wr X → Y.ownsMap Try.prog 92 (plainElem Try.prog 3) B (n + 1) (D.put kl (.lit (.int .i64 (L : Int)))) → X.grownBy Y (some B) → openI l c s = -1 ∧ EmW N ro l m R S B (n + 1) s Y ∧ KeepP N w Y) := fun X Y hX => HMISS.out HALL.out X Y (hb.trans (hX.mono hb.size))
      have HDQ : RowKit.Hid (∀ X, Below wr.heap.size wr X → X.ownsMap Try.prog 92 (plainElem Try.prog 3) B n D) := fun X hX => HDX.out X (hb.trans (hX.mono hb.size))
      clear HN HFOUND HMISS HO HL HDX HB3 HG HPOS HX HALL hb2 hi hb hK HBW hKW hb3
      generalize (i : Int) - 1 = x at *
      go_wp2_with fail
      go_quiet (fail)
      go_wp2_with fail
      have Hq : ∀ (p : Addr) (v : Value), wr.cell? p = some v → (wr.drewN nq).cell? p = some v := fun _ _ h => h
      replace s0 := Hq _ _ s0; replace s1 := Hq _ _ s1; replace k0 := Hq _ _ k0; replace k1 := Hq _ _ k1; replace k2 := Hq _ _ k2
      have hbq : Below wr.heap.size wr (wr.drewN nq).drew := (below_drewN (Below.refl _ wr)).drew
      clear Hq hlk hlk2
      generalize wr.drewN nq = wq at *
      go_still_tail 10, (by kernel_rfl)
      change wpList _ _ _ _ _ wq.drew
      have hDd := HDQ.out wq.drew hbq
      have hwl : (Lit.int .i64 (L : Int)).wf = true := WalkArith.wf_i64 ⟨by omega, by omega⟩
      refine wpList_mapUpdate_own _ rfl _ _ _ 77 rfl 92 3 kindLaw Try.underlying77 (plainElem Try.prog 3) B n D rfl hDd hn (kindV rc) (.int .i64 L) kl rfl rfl HKL.out (.lit (.int .i64 L)) [] (plainElem_int Try.underlying3 hwl) ?_
      intro w9 hO9 hg9
      obtain ⟨q1, q2, q3⟩ := HMQ.out _ _ hbq hO9 hg9
      have Q2 := Lib.hid q2
      have Q3 := Lib.hid q3
      clear q2 q3 hO9 hg9 hDd HMQ HDQ hwl s0 s1 k0 k1 k2
      go_wp2_with fail
      go_ret
      exact ⟨by rw [q1]; rfl, Q2.out, Q3.out⟩
end Go.Proofs.Ytnijcglmfpiheaa
