/-
  The walk of EmphCounts: it returns true whatever it is handed. Conditions: the form's own bounds.
-/
import Derived.Test.YtnijcglmfpiheaaEmphMarks
import Derived.BigQuiet
import Derived.BigRegion
import Derived.Deep.CutRange
set_option linter.unusedSimpArgs false
set_option linter.unusedVariables false
namespace Go.Proofs.Ytnijcglmfpiheaa
open Go.RowKit Go.Lib

theorem intCells_set (l : List Int) (i : Nat) (v : Int) : (intCells l).set i (.int .i64 v) = intCells (l.set i v) := by
  unfold intCells
  rw [List.map_set]
/-- A store into an own row of numbers. -/
theorem ints_set {w : World} {base g cap i n : Nat} {l : List Int} (hn : n = l.length) (hi : i < l.length) (h : w.ownsRow base 3 1 (.slice (some ⟨g, 0, none⟩) n cap) n (intCells l)) (v : Int) :
    (w.setCell ⟨g, i, none⟩ (.int .i64 v)).ownsRow base 3 1 (.slice (some ⟨g, 0, none⟩) n cap) n (intCells (l.set i v)) ∧ w.cell? ⟨g, i, none⟩ = some (.int .i64 l[i]!) ∧ w.frozen? ⟨g, i, none⟩ = false ∧ base ≤ g ∧ g < w.heap.size := by
  obtain ⟨h1, h2, h3, h4, h5⟩ := ownsRow_set h (j := i) (by omega) (.int .i64 v)
  rw [intCells_set] at h1
  refine ⟨h1, ?_, h3, h4, h5⟩
  rw [h2, getElem!_pos l i hi]
  unfold intCells
  rw [List.getElem?_map, List.getElem?_eq_getElem hi]
  rfl
theorem intsRow_some {w : World} {base n : Nat} {v : Value} {l : List Int} (hn : n = l.length) (hpos : 0 < n) (h : w.ownsRow base 3 1 v n (intCells l)) : ∃ g cap, v = .slice (some ⟨g, 0, none⟩) n cap := by
  rcases h.2 with ⟨_, h0⟩ | ⟨g, cap, cur, hv, _⟩
  · omega
  · exact ⟨g, cap, hv⟩

namespace emphCounts
theorem owns_mono {w : World} {base base' n size : Nat} {e : TypeId} {v : Value} {xs : List Value} (h : w.ownsRow base e size v n xs) (hb : base' ≤ base) : w.ownsRow base' e size v n xs := by
  refine ⟨h.1, ?_⟩
  rcases h.2 with hn | ⟨g, cap, cur, hv, hg, rest⟩
  · exact .inl hn
  · exact .inr ⟨g, cap, cur, hv, Nat.le_trans hb hg, rest⟩
set_option maxHeartbeats 16000000 in
set_option maxRecDepth 100000 in
theorem walk (a : Option Addr) (l : List RunP) (cap : Nat) (hl : l.length * 24 ≤ reachBytes) (hx : ∀ r ∈ l, RunOk r) (w : World) (hI : RunsIn w.heap.size w (.slice a l.length cap) l) :
    Calls Try.prog 7 #[.slice a l.length cap] w fun e w' => e = .returned (.bool true) ∧ Below w.heap.size w w' := by
  have hl2 : l.length ≤ 4611686018427387904 := by unfold reachBytes at hl; omega
  have mixed : Try.prog.follows Departure.mixedOrders = true := rfl
  have hG := fun (w1 : World) (h : RunsIn w1.heap.size w1 (.slice a l.length cap) l) => greatR_any a cap l w1 hl2 h
  have HI := Lib.hid hI
  clear hI hl
  cases hg : greatR l
  · rw [hg] at hG
    obtain ⟨g1, g2⟩ := greatR_false hg
    have HCp := Lib.hid (fun (w1 : World) (h : RunsIn w1.heap.size w1 (.slice a l.length cap) l) => copies_any a cap l (by omega) w1 h)
    have HPr := Lib.hid (fun (a1 : Option Addr) (c1 : Nat) (w1 : World) (h : RunsIn w1.heap.size w1 (.slice a1 l.length c1) l) => pairs_any a1 c1 l (by omega) hx w1 h)
    have HLf := Lib.hid (fun (a1 : Option Addr) (c1 : Nat) (w1 : World) (h : RunsIn w1.heap.size w1 (.slice a1 l.length c1) l) => left_any a1 c1 l (by omega) hx w1 h)
    have HOK : RowKit.Hid (∀ p ∈ (solveP l).pairs, PairOk l p) := (solve_count l).ok
    have HBK : RowKit.Hid (∀ k i, i < l.length → (((solveP l).pairs.take k).foldl addL (solveP l).left)[i]! ≤ 1048576 ∧ 0 ≤ (((solveP l).pairs.take k).foldl addL (solveP l).left)[i]!) := fun k i hi => back_le l k i hi
    have HCO : RowKit.Hid (∀ i, i < l.length → ((solveP l).pairs.foldl addL (solveP l).left)[i]! = startL l[i]!) := fun i hi => counts_law l i hi
    have HSN : RowKit.Hid (∀ k (h : k < (solveP l).pairs.length), ((solveP l).pairs.take (k + 1)).foldl addL (solveP l).left = addL (((solveP l).pairs.take k).foldl addL (solveP l).left) (solveP l).pairs[k]) := fun k h => by
      rw [List.take_succ_eq_append_getElem h, List.foldl_append]; rfl
    have HLN : RowKit.Hid (∀ k, (((solveP l).pairs.take k).foldl addL (solveP l).left).length = l.length) := fun k => by rw [addAll_len, solve_len]
    have hln := solve_len l
    have hpn : (solveP l).pairs.length ≤ 1000000000 := by
      have := goP_pairs l l.length (Nat.le_refl _)
      have e : (goP l l.length).pairs = (solveP l).pairs := rfl
      rw [e] at this
      omega
    clear hg g2 hx
    generalize (solveP l).pairs = ps at *
    generalize (solveP l).left = lf at *
    go_enter Try.func7, Try.ntmps7
    go_wp2_with fail
    refine (emphAlive_any _).mono ?_
    rintro e w1 ⟨rfl, b1⟩
    go_wp2_with fail
    refine (hG w1 (HI.out.later b1)).mono ?_
    rintro e w2 ⟨rfl, rfl⟩
    go_wp2_with fail
    refine (HCp.out _ (HI.out.later b1)).mono ?_
    rintro e w3 ⟨⟨g3, c3, rfl, hO3⟩, b3⟩
    have d3 := b1.trans (b3.mono b1.size)
    have hR3 := runsIn_of_owns hO3
    go_wp2_with fail
    refine (HPr.out _ c3 w3 hR3).mono ?_
    rintro e w4 ⟨⟨a4, c4, rfl, hP4⟩, b4⟩
    have d4 := d3.trans (b4.mono d3.size)
    have HP4 := Lib.hid hP4
    clear hO3 hR3 b3 d3 b4 hP4 b1
    go_wp2_with fail
    refine (HCp.out w4 (HI.out.later d4)).mono ?_
    rintro e w5 ⟨⟨g5, c5, rfl, hO5⟩, b5⟩
    have d5 := d4.trans (b5.mono d4.size)
    have hR5 := runsIn_of_owns hO5
    go_wp2_with fail
    refine (HLf.out _ c5 w5 hR5).mono ?_
    rintro e w6 ⟨⟨v6, rfl, hO6⟩, b6⟩
    have HB6 := Lib.hid (d5.trans (b6.mono d5.size))
    have HP6 := Lib.hid (HP4.out.later (b5.trans (b6.mono b5.size)))
    have hz6 : w4.heap.size ≤ w5.heap.size := b5.size
    have hO6' := owns_mono hO6 hz6
    have HO6 := Lib.hid hO6'
    obtain ⟨a6, c6, rfl, -⟩ := ownsRow_slice hO6
    have hP6' : PairsIn w4.heap.size w6 (.slice a4 ps.length c4) ps := HP4.out.below (b5.trans (b6.mono b5.size))
    have HP := Lib.hid hP6'
    have hIl : RunsIn w.heap.size w6 (.slice a l.length cap) l := HI.out.below HB6.out
    have HIL := Lib.hid hIl
    have hsz : w.heap.size ≤ w4.heap.size := d4.size
    have hsz6 : w4.heap.size ≤ w6.heap.size := Nat.le_trans hz6 b6.size
    clear hO6 hO6' hR5 hO5 b5 b6 d4 d5 HP4 HCp HPr HLf HP6 hP6' hIl hG
    have hll : ¬ (lf.length : Int) ≠ (l.length : Int) := by rw [hln]; simp
    rw [hln] at HO6 ⊢
    go_wp2_with fail
    go_loopw [5, 6] (fun iv _ wr => ∃ i : Nat, i ≤ ps.length ∧ iv = .int .i64 i ∧ Below w4.heap.size w6 wr ∧ wr.ownsRow w4.heap.size 3 1 (.slice a6 l.length c6) l.length (intCells ((ps.take i).foldl addL lf))) (fun iv _ _ => ps.length - (RowKit.intOf iv).toNat)
    case atStart => exact ⟨0, Nat.zero_le _, rfl, Below.refl _ _, by simpa using HO6.out⟩
    case round =>
      clear HO6
      obtain ⟨i, hil, rfl, hb, ho⟩ := hrel
      by_cases hlt : i < ps.length
      · have hlt' : (i : Int) < (ps.length : Int) := by omega
        obtain ⟨o, c, e1, e2, hoc, hcl, hn, hop, hcc, hmk⟩ := HOK.out ps[i] (List.getElem_mem hlt)
        obtain ⟨g, off, rfl, hgl, -, hcs⟩ := (HP.out.below hb).at hlt
        obtain ⟨p0, p1, p2⟩ := hcs i hlt
        have hsn := HSN.out i hlt
        have hbo := HBK.out i o (by omega)
        have hbc := HBK.out i c (by omega)
        have hbo1 := HBK.out (i + 1) o (by omega)
        have hbc1 := HBK.out (i + 1) c (by omega)
        have hlen := HLN.out i
        have hBw : Below w.heap.size w6 wr := hb.mono hsz
        obtain ⟨gl, ol, rfl, hgl', -, hrs⟩ := (HIL.out.below hBw).at (show o < l.length by omega)
        obtain ⟨r0, r1, r2, r3⟩ := hrs o (by omega)
        obtain ⟨q0, q1, q2, q3⟩ := hrs c hcl
        rw [getElem!_pos l o (by omega)] at hop hmk
        rw [getElem!_pos l c hcl] at hcc hmk
        rw [hop] at r2
        rw [hcc] at q3
        rw [hmk] at r0
        obtain ⟨ga, ca, e6⟩ := intsRow_some (l := (ps.take i).foldl addL lf) hlen.symm (by omega) ho
        injection e6 with e7 _ e8
        subst e7 e8
        have hX : RowKit.Hid (∀ (X : World), Below wr.heap.size wr X → Below w4.heap.size w6 X ∧ X.ownsRow w4.heap.size 3 1 (.slice (some ⟨ga, 0, none⟩) l.length c6) l.length (intCells ((ps.take i).foldl addL lf)) ∧ X.cell? ⟨gl, ol + o * 4, none⟩ = some (.int .u8 l[c].mark) ∧ X.cell? ⟨gl, ol + o * 4 + 2, none⟩ = some (.bool true) ∧ X.cell? ⟨gl, ol + c * 4, none⟩ = some (.int .u8 l[c].mark) ∧ X.cell? ⟨gl, ol + c * 4 + 3, none⟩ = some (.bool true)) := fun X h => by
          have hgw : gl < wr.heap.size := by have := hb.size; omega
          refine ⟨hb.trans (h.mono (Nat.le_trans hsz6 hb.size)), ownsRow_below ho h, ?_, ?_, ?_, ?_⟩
          · exact (h.cell (p := ⟨gl, _, none⟩) hgw).trans r0
          · exact (h.cell (p := ⟨gl, _, none⟩) hgw).trans r2
          · exact (h.cell (p := ⟨gl, _, none⟩) hgw).trans q0
          · exact (h.cell (p := ⟨gl, _, none⟩) hgw).trans q3
        clear hcs hrs r0 r1 r2 r3 q0 q1 q2 q3 hb ho hBw hop hcc hmk
        generalize hpp : ps[i] = pp at *
        obtain ⟨p_o, p_c, p_n⟩ := pp
        dsimp only at e1 e2 hn p0 p1 p2
        subst e1 e2
        generalize hL0 : (ps.take i).foldl addL lf = L0 at *
        have HSN2 : RowKit.Hid ((ps.take (i + 1)).foldl addL lf = (L0.set o (L0[o]! + p_n)).set c ((L0.set o (L0[o]! + p_n))[c]! + p_n)) := by
          show _ = _
          rw [hsn]
          rfl
        have hL1c : (L0.set o (L0[o]! + p_n))[c]! = L0[c]! := get_set_ne (by omega)
        have hL1l : (L0.set o (L0[o]! + p_n)).length = l.length := by rw [List.length_set]; exact hlen
        have hlo := hbo
        have hlc := hbc
        rw [← hL1c] at hlc
        have HoL : RowKit.Hid (o < L0.length) := by show o < L0.length; omega
        have HcL : RowKit.Hid (c < (L0.set o (L0[o]! + p_n)).length) := by show c < _; omega
        have HLEN := Lib.hid hlen
        have HL1L := Lib.hid hL1l
        clear hsn hbo hbc hbo1 hbc1 hL1c hL1l hlen hpp HSN
        have hnew := heap_alloc_new wr (.cells #[.int .i64 o, .int .i64 c, .int .i64 p_n] 40)
        obtain ⟨bX, oX, s0, s1, s2, s3⟩ := hX.out (wr.alloc (.cells #[.int .i64 o, .int .i64 c, .int .i64 p_n] 40)) ((Below.refl _ wr).alloc (Nat.le_refl _) _)
        have hgaw : ga < wr.heap.size := by
          obtain ⟨-, -, -, -, h5⟩ := ints_set (i := o) HLEN.out.symm HoL.out oX 0
          have : w4.heap.size ≤ ga := (ints_set (i := o) HLEN.out.symm HoL.out oX 0).2.2.2.1
          rcases Nat.lt_or_ge ga wr.heap.size with h | h
          · exact h
          · exfalso
            have h6 : ga = wr.heap.size := by simp at h5; omega
            subst h6
            rcases oX.2 with ⟨h7, _⟩ | ⟨g', cap', cur, h7, h8, h9, _⟩
            · cases h7
            · injection h7 with h7
              injection h7 with h7
              injection h7 with h7
              rw [← h7, hnew] at h9
              simp at h9
        clear hX
        have OX := Lib.hid oX
        have BX := Lib.hid bX
        have HNEW := Lib.hid hnew
        obtain ⟨x0, x1, x2, -⟩ := block_three hnew
        clear oX bX hnew
        have hnn : p_n = 1 ∨ p_n = 2 := hn
        clear hn
        have hn12 : 1 ≤ p_n ∧ p_n ≤ 2 := by omega
        obtain ⟨hn1, hn2⟩ := hn12
        have hcase : ((p_n != 1) = false) ∨ ((p_n != 1) = true ∧ (p_n != 2) = false) := by
          rcases hnn with rfl | rfl
          · exact .inl rfl
          · exact .inr ⟨rfl, rfl⟩
        have hocN : ¬ c ≤ o := by omega
        have hlcN : ¬ l.length ≤ c := by omega
        clear hnn
        go_wp2_with fail
        generalize wr.alloc (.cells #[.int .i64 o, .int .i64 c, .int .i64 p_n] 40) = X at *
        generalize hvo : L0[o]! = vo at *
        generalize hvc : (L0.set o (vo + p_n))[c]! = vc at *
        have HVO := Lib.hid hvo
        have HVC := Lib.hid hvc
        clear hvo hvc
        obtain ⟨hlo1, hlo2⟩ := hlo
        obtain ⟨hlc1, hlc2⟩ := hlc
        have ho0 : ¬ (o : Int) < 0 := by omega
        have hoc' : ¬ (c : Int) ≤ (o : Int) := by omega
        have hcl' : ¬ (l.length : Int) ≤ (c : Int) := by omega
        have hol' : (o : Int) < (l.length : Int) := by omega
        have hcl2 : (c : Int) < (l.length : Int) := by omega
        have hNL : wr.heap.size ≠ ga := by omega
        rcases hcase with hb1 | ⟨hb1, hb2⟩
        all_goals
          go_quiet (fail)
          go_wp2_with fail
          have Hq : ∀ (p : Addr) (v : Value), X.cell? p = some v → (X.drewN nq).drew.cell? p = some v := fun _ _ h => h
          replace x0 := Hq _ _ x0; replace x1 := Hq _ _ x1; replace x2 := Hq _ _ x2
          have OD : RowKit.Hid ((X.drewN nq).drew.ownsRow w4.heap.size 3 1 (.slice (some ⟨ga, 0, none⟩) l.length c6) l.length (intCells L0)) := OX.out
          have BD : RowKit.Hid (Below w4.heap.size w6 (X.drewN nq).drew) := (below_drewN BX.out).drew
          have ND : RowKit.Hid ((X.drewN nq).drew.heap[wr.heap.size]? = some (.cells #[.int .i64 o, .int .i64 c, .int .i64 p_n] 40)) := HNEW.out
          obtain ⟨t1, t2, t3, t4, t5⟩ := ints_set HLEN.out.symm HoL.out OD.out (vo + p_n)
          rw [HVO.out] at t2
          have T1 := Lib.hid t1
          have T4 := Lib.hid t4
          clear t1 t4 t5 Hq OX BX HNEW s0 s1 s2 s3 hb1
          have t2' : (X.drewN nq).cell? ⟨ga, o, none⟩ = some (.int .i64 vo) := t2
          have x0' : (X.drewN nq).cell? ⟨wr.heap.size, 0, none⟩ = some (.int .i64 o) := x0
          have x1' : (X.drewN nq).cell? ⟨wr.heap.size, 1, none⟩ = some (.int .i64 c) := x1
          have x2' : (X.drewN nq).cell? ⟨wr.heap.size, 2, none⟩ = some (.int .i64 p_n) := x2
          clear x0 x1 x2
          generalize X.drewN nq = Xq at *
          go_still_tail 9, (by kernel_rfl)
          change wpList _ _ _ _ _ Xq.drew
          generalize Xq.drew = Xd at *
          go_wp2_with fail
          have ND1 : RowKit.Hid ((Xd.setCell ⟨ga, o, none⟩ (.int .i64 (vo + p_n))).heap[wr.heap.size]? = some (.cells #[.int .i64 o, .int .i64 c, .int .i64 p_n] 40)) := by
            show _ = _
            rw [Below.heap_setCell _ _ _ _ hNL]
            exact ND.out
          have BY := Lib.hid (below_set BD.out T4.out o (.int .i64 (vo + p_n)))
          clear t2 t2' t3 x0' x1' x2' OD BD ND
          generalize Xd.setCell ⟨ga, o, none⟩ (.int .i64 (vo + p_n)) = Y at *
          obtain ⟨x0, x1, x2, -⟩ := block_three ND1.out
          have OD : RowKit.Hid (Y.drew.ownsRow w4.heap.size 3 1 (.slice (some ⟨ga, 0, none⟩) l.length c6) l.length (intCells (L0.set o (vo + p_n)))) := T1.out
          have BD : RowKit.Hid (Below w4.heap.size w6 Y.drew) := BY.out.drew
          obtain ⟨t1, t2, t3, t4, t5⟩ := ints_set HL1L.out.symm HcL.out OD.out (vc + p_n)
          rw [HVC.out] at t2
          have U1 := Lib.hid t1
          have U4 := Lib.hid t4
          have t2' : Y.cell? ⟨ga, c, none⟩ = some (.int .i64 vc) := t2
          clear t1 t4 t5 T1 BY OD ND1
          go_still_tail 9, (by kernel_rfl)
          change wpList _ _ _ _ _ Y.drew
          generalize Y.drew = Yd at *
          have BZ := Lib.hid (below_set BD.out U4.out c (.int .i64 (vc + p_n)))
          clear BD T4 U4 x0 x1 x2 t2'
          go_wp2_with fail
          go_roundw
          case rel => exact ⟨i + 1, by omega, by go_num, BZ.out, by rw [HSN2.out]; exact U1.out⟩
          case measure => simp [RowKit.intOf]; omega
      · obtain rfl : i = ps.length := by omega
        rw [List.take_length] at ho
        generalize hLL : ps.foldl addL lf = LL at *
        have HLL : RowKit.Hid (LL.length = l.length) := by
          show _ = _
          have := HLN.out ps.length
          rw [List.take_length, hLL] at this
          exact this
        have hlt' : ¬ (ps.length : Int) < (ps.length : Int) := by omega
        have HO := Lib.hid ho
        have HBW := Lib.hid (HB6.out.trans (hb.mono hsz))
        have hRl : RunsIn w.heap.size wr (.slice a l.length cap) l := HIL.out.below (hb.mono hsz)
        have HRL := Lib.hid hRl
        clear ho hb hRl hsz hsz6 HB6 HP HIL HBK HSN HLN HOK
        rename World => wo
        go_wp2_with fail
        go_loopw [7] (fun iv wz => ∃ k q : Nat, k ≤ l.length ∧ iv = .int .i64 k ∧ wz = wo.drewN q) (fun iv _ => l.length - (RowKit.intOf iv).toNat)
        case atStart => exact ⟨0, 0, Nat.zero_le _, rfl, rfl⟩
        case round =>
          obtain ⟨k, q, hk, rfl, rfl⟩ := hrel
          by_cases hkl : k < l.length
          · have hkl' : (k : Int) < (l.length : Int) := by omega
            obtain ⟨gl, ol, rfl, -, -, hrs⟩ := HRL.out.at hkl
            obtain ⟨r0, r1, r2, r3⟩ := hrs k hkl
            obtain ⟨ga, ca, e6⟩ := intsRow_some HLL.out.symm (by omega) HO.out
            injection e6 with e7 _ e8
            subst e7 e8
            obtain ⟨-, t2, -⟩ := ints_set (i := k) HLL.out.symm (by rw [HLL.out]; exact hkl) HO.out 0
            rw [HCO.out k hkl, getElem!_pos l k hkl] at t2
            have hst : startL l[k] = if l[k].n < 1 ∨ 1048576 < l[k].n then 0 else l[k].n := rfl
            rw [hst] at t2
            clear hrs hst r0 r2 r3
            generalize l[k].n = rn at *
            have hq1 : (wo.drewN q).cell? ⟨gl, ol + k * 4 + 1, none⟩ = some (.int .i64 rn) := r1
            clear r1
            have hpart : rn < 1 ∨ ¬ rn < 1 ∧ 1048576 < rn ∨ ¬ rn < 1 ∧ ¬ 1048576 < rn := by omega
            rcases hpart with h1 | ⟨h1, h2⟩ | ⟨h1, h2⟩
            · rw [if_pos (.inl h1)] at t2
              have hq2 : (wo.drewN q).cell? ⟨ga, k, none⟩ = some (.int .i64 0) := t2
              have d1 : decide (1 ≤ rn) = false := decide_eq_false (by omega)
              have d2 : decide (rn < 1) = true := decide_eq_true h1
              clear t2
              generalize hwx : wo.drewN q = wx at *
              have HWX := Lib.hid hwx
              clear hwx
              go_wp2_with fail
              go_quiet (fail)
              go_wp2_with fail
              go_roundw
              case rel => exact ⟨k + 1, q + nq, by omega, by go_num, by rw [← HWX.out]; simp [World.drewN, Nat.add_assoc]⟩
              case measure => simp [RowKit.intOf]; omega
            · rw [if_pos (.inr h2)] at t2
              have hq2 : (wo.drewN q).cell? ⟨ga, k, none⟩ = some (.int .i64 0) := t2
              have d1 : decide (1 ≤ rn) = true := decide_eq_true (by omega)
              have d2 : decide (rn < 1) = false := decide_eq_false h1
              have d3 : decide (rn ≤ 1048576) = false := decide_eq_false (by omega)
              have d4 : decide (1048576 < rn) = true := decide_eq_true h2
              clear t2
              generalize hwx : wo.drewN q = wx at *
              have HWX := Lib.hid hwx
              clear hwx
              go_wp2_with fail
              go_quiet (fail)
              go_wp2_with fail
              go_roundw
              case rel => exact ⟨k + 1, q + nq, by omega, by go_num, by rw [← HWX.out]; simp [World.drewN, Nat.add_assoc]⟩
              case measure => simp [RowKit.intOf]; omega
            · rw [if_neg (by omega)] at t2
              have hq2 : (wo.drewN q).cell? ⟨ga, k, none⟩ = some (.int .i64 rn) := t2
              have d1 : decide (1 ≤ rn) = true := decide_eq_true (by omega)
              have d2 : decide (rn < 1) = false := decide_eq_false h1
              have d3 : decide (rn ≤ 1048576) = true := decide_eq_true (by omega)
              have d4 : decide (1048576 < rn) = false := decide_eq_false h2
              clear t2
              generalize hwx : wo.drewN q = wx at *
              have HWX := Lib.hid hwx
              clear hwx
              go_wp2_with fail
              go_quiet (fail)
              go_wp2_with fail
              go_roundw
              case rel => exact ⟨k + 1, q + nq, by omega, by go_num, by rw [← HWX.out]; simp [World.drewN, Nat.add_assoc]⟩
              case measure => simp [RowKit.intOf]; omega
          · obtain rfl : k = l.length := by omega
            have hkl' : ¬ (l.length : Int) < (l.length : Int) := by omega
            go_wp2_with fail
            go_ret
            exact ⟨rfl, below_drewN HBW.out⟩
  · rw [hg] at hG
    go_enter Try.func7, Try.ntmps7
    go_wp2_with fail
    refine (emphAlive_any _).mono ?_
    rintro e w1 ⟨rfl, b1⟩
    go_wp2_with fail
    refine (hG w1 (HI.out.later b1)).mono ?_
    rintro e w2 ⟨rfl, rfl⟩
    go_wp2_with fail
    go_ret
    exact ⟨rfl, b1⟩
end emphCounts
end Go.Proofs.Ytnijcglmfpiheaa
