/-
  The walk of EmphApart: it returns true whatever it is handed. Conditions: the form's own bounds.
-/
import Derived.Test.YtnijcglmfpiheaaEmphMarks
import Derived.BigQuiet
set_option linter.unusedSimpArgs false
set_option linter.unusedVariables false
namespace Go.Proofs.Ytnijcglmfpiheaa
open Go.RowKit Go.Lib
namespace emphApart
theorem owns_mono {w : World} {base base' n size : Nat} {e : TypeId} {v : Value} {xs : List Value} (h : w.ownsRow base e size v n xs) (hb : base' ≤ base) : w.ownsRow base' e size v n xs := by
  refine ⟨h.1, ?_⟩
  rcases h.2 with hn | ⟨g, cap, cur, hv, hg, rest⟩
  · exact .inl hn
  · exact .inr ⟨g, cap, cur, hv, Nat.le_trans hb hg, rest⟩
set_option maxHeartbeats 16000000 in
set_option maxRecDepth 100000 in
theorem walk (a : Option Addr) (la : List RunP) (ca : Nat) (hla : la.length * 24 ≤ reachBytes) (hxa : ∀ r ∈ la, RunOk r) (b : Option Addr) (lb : List RunP) (cb : Nat) (hlb : lb.length * 24 ≤ reachBytes) (hxb : ∀ r ∈ lb, RunOk r) (w : World)
    (hIa : RunsIn w.heap.size w (.slice a la.length ca) la) (hIb : RunsIn w.heap.size w (.slice b lb.length cb) lb) :
    Calls Try.prog 9 #[.slice a la.length ca, .slice b lb.length cb] w fun e w' => e = .returned (.bool true) ∧ Below w.heap.size w w' := by
  have hl2 : la.length ≤ 4611686018427387904 := by unfold reachBytes at hla; omega
  have hl3 : lb.length ≤ 4611686018427387904 := by unfold reachBytes at hlb; omega
  have hGa := fun (w1 : World) (h : RunsIn w1.heap.size w1 (.slice a la.length ca) la) => greatR_any a ca la w1 hl2 h
  have hGb := fun (w1 : World) (h : RunsIn w1.heap.size w1 (.slice b lb.length cb) lb) => greatR_any b cb lb w1 hl3 h
  have mixed : Try.prog.follows Departure.mixedOrders = true := rfl
  have HIa := Lib.hid hIa
  have HIb := Lib.hid hIb
  clear hIa hIb hla hlb
  cases hg : greatR la
  · rw [hg] at hGa
    cases hg' : greatR lb
    · rw [hg'] at hGb
      obtain ⟨g1, -⟩ := greatR_false hg
      obtain ⟨g2, -⟩ := greatR_false hg'
      obtain ⟨i0, hi, hz0, hz1, hz2⟩ := info_parts infoRun
      have hlA : (markP 42 la.length la).length = la.length := markP_len _ _ _
      have hlB : (markP 95 lb.length lb).length = lb.length := markP_len _ _ _
      have hokA := markP_ok (m := 42) (by decide) hxa
      have hokB := markP_ok (m := 95) (by decide) hxb
      have hap := apart_law (a := markP 42 la.length la) (b := markP 95 lb.length lb) (fun x hx y hy => by rw [markP_all hx, markP_all hy]; decide)
      have HCa := Lib.hid (fun (w1 : World) (h : RunsIn w1.heap.size w1 (.slice a la.length ca) la) => copies_any a ca la (by omega) w1 h)
      have HCb := Lib.hid (fun (w1 : World) (h : RunsIn w1.heap.size w1 (.slice b lb.length cb) lb) => copies_any b cb lb (by omega) w1 h)
      have HMa : RowKit.Hid (∀ (X : World) (base g cap k : Nat), k < la.length → X.ownsRow base 42 4 (.slice (some ⟨g, 0, none⟩) la.length cap) la.length (runCells (markP 42 k la)) → (X.setCell ⟨g, k * 4, none⟩ (.int .u8 42)).ownsRow base 42 4 (.slice (some ⟨g, 0, none⟩) la.length cap) la.length (runCells (markP 42 (k + 1) la)) ∧ (∃ v, X.cell? ⟨g, k * 4, none⟩ = some v) ∧ X.frozen? ⟨g, k * 4, none⟩ = false ∧ base ≤ g ∧ g < X.heap.size) := fun X base g cap k hk h => mark_set hk h
      have HMb : RowKit.Hid (∀ (X : World) (base g cap k : Nat), k < lb.length → X.ownsRow base 42 4 (.slice (some ⟨g, 0, none⟩) lb.length cap) lb.length (runCells (markP 95 k lb)) → (X.setCell ⟨g, k * 4, none⟩ (.int .u8 95)).ownsRow base 42 4 (.slice (some ⟨g, 0, none⟩) lb.length cap) lb.length (runCells (markP 95 (k + 1) lb)) ∧ (∃ v, X.cell? ⟨g, k * 4, none⟩ = some v) ∧ X.frozen? ⟨g, k * 4, none⟩ = false ∧ base ≤ g ∧ g < X.heap.size) := fun X base g cap k hk h => mark_set hk h
      have HZa : RowKit.Hid (markP 42 0 la = la) := markP_zero _ _
      have HZb : RowKit.Hid (markP 95 0 lb = lb) := markP_zero _ _
      clear hg hg' hxa hxb
      go_enter Try.func9, Try.ntmps9
      go_wp2_with fail
      refine (emphAlive_any _).mono ?_
      rintro e w1 ⟨rfl, b1⟩
      go_wp2_with fail
      refine (hGa w1 (HIa.out.later b1)).mono ?_
      rintro e w2 ⟨rfl, rfl⟩
      go_wp2_with fail
      refine (hGb _ (HIb.out.later b1)).mono ?_
      rintro e w2 ⟨rfl, rfl⟩
      go_wp2_with fail
      refine (HCa.out _ (HIa.out.later b1)).mono ?_
      rintro e w3 ⟨⟨gx, cx, rfl, hX⟩, b3⟩
      have B3 := Lib.hid (b1.trans (b3.mono b1.size))
      go_wp2_with fail
      refine (HCb.out w3 (HIb.out.later B3.out)).mono ?_
      rintro e w4 ⟨⟨gy, cy, rfl, hY⟩, b4⟩
      have hX4 := owns_mono (ownsRow_below hX b4) b1.size
      have hY4 := owns_mono hY B3.out.size
      have hgx : gx < w3.heap.size := (ownsRow_ltA hX rfl).2
      have hgy : w3.heap.size ≤ gy := (ownsRow_ltA hY rfl).1
      have hne : gx ≠ gy := by omega
      have B4 := Lib.hid (B3.out.trans (b4.mono B3.out.size))
      have hX0 : w4.ownsRow w.heap.size 42 4 (.slice (some ⟨gx, 0, none⟩) la.length cx) la.length (runCells (markP 42 0 la)) := by rw [HZa.out]; exact hX4
      have hY0 : w4.ownsRow w.heap.size 42 4 (.slice (some ⟨gy, 0, none⟩) lb.length cy) lb.length (runCells (markP 95 0 lb)) := by rw [HZb.out]; exact hY4
      clear hX hY hX4 hY4 b1 b3 b4 B3 HIa HIb hGa hGb HCa HCb HZa HZb hgx hgy
      go_wp2_with fail
      go_loopw [7] (fun iv wr => ∃ i : Nat, i ≤ la.length ∧ iv = .int .i64 i ∧ Below w.heap.size w wr ∧ wr.ownsRow w.heap.size 42 4 (.slice (some ⟨gx, 0, none⟩) la.length cx) la.length (runCells (markP 42 i la)) ∧ wr.ownsRow w.heap.size 42 4 (.slice (some ⟨gy, 0, none⟩) lb.length cy) lb.length (runCells (markP 95 0 lb))) (fun iv _ => la.length - (RowKit.intOf iv).toNat)
      case atStart => exact ⟨0, Nat.zero_le _, rfl, B4.out, hX0, hY0⟩
      case round =>
        clear hX0 hY0
        obtain ⟨i, hil, rfl, hb, hxr, hyr⟩ := hrel
        by_cases hlt : i < la.length
        · have hlt' : (i : Int) < (la.length : Int) := by omega
          obtain ⟨x1, ⟨v, x2⟩, x3, x4, x5⟩ := HMa.out wr _ gx cx i hlt hxr
          have X1 := Lib.hid x1
          have Y1 := Lib.hid (ownsRow_setCell_other hyr (a := ⟨gx, i * 4, none⟩) (by simp [Value.ownBlock]; exact fun e => hne e.symm) (.int .u8 42))
          have B1 := Lib.hid (below_set hb x4 (i * 4) (.int .u8 42))
          clear x1 hxr hyr hb
          go_wp2_with fail
          go_roundw
          case rel => exact ⟨i + 1, by omega, by go_num, B1.out, X1.out, Y1.out⟩
          case measure => simp [RowKit.intOf]; omega
        · obtain rfl : i = la.length := by omega
          have HXX := Lib.hid hxr
          have hlt' : ¬ (la.length : Int) < (la.length : Int) := by omega
          clear hxr HMa
          rename World => w5
          go_wp2_with fail
          go_loopw [8] (fun iv wr => ∃ i : Nat, i ≤ lb.length ∧ iv = .int .i64 i ∧ Below w.heap.size w wr ∧ wr.ownsRow w.heap.size 42 4 (.slice (some ⟨gx, 0, none⟩) la.length cx) la.length (runCells (markP 42 la.length la)) ∧ wr.ownsRow w.heap.size 42 4 (.slice (some ⟨gy, 0, none⟩) lb.length cy) lb.length (runCells (markP 95 i lb))) (fun iv _ => lb.length - (RowKit.intOf iv).toNat)
          case atStart => exact ⟨0, Nat.zero_le _, rfl, hb, HXX.out, hyr⟩
          case round =>
            clear hyr hb HXX
            obtain ⟨i, hil, rfl, hb, hxr, hyr⟩ := hrel
            by_cases hlt : i < lb.length
            · have hlt' : (i : Int) < (lb.length : Int) := by omega
              obtain ⟨x1, ⟨v, x2⟩, x3, x4, x5⟩ := HMb.out wr _ gy cy i hlt hyr
              have Y1 := Lib.hid x1
              have X1 := Lib.hid (ownsRow_setCell_other hxr (a := ⟨gy, i * 4, none⟩) (by simp [Value.ownBlock]; exact fun e => hne e) (.int .u8 95))
              have B1 := Lib.hid (below_set hb x4 (i * 4) (.int .u8 95))
              clear x1 hxr hyr hb
              go_wp2_with fail
              go_roundw
              case rel => exact ⟨i + 1, by omega, by go_num, B1.out, X1.out, Y1.out⟩
              case measure => simp [RowKit.intOf]; omega
            · obtain rfl : i = lb.length := by omega
              have hlt' : ¬ (lb.length : Int) < (lb.length : Int) := by omega
              have BX := Lib.hid hb
              generalize hA : markP 42 la.length la = A at *
              generalize hB : markP 95 lb.length lb = Bl at *
              rw [← hlA] at hxr
              rw [← hlB] at hyr
              have hRx := runsIn_of_owns hxr
              have hRy := runsIn_of_owns hyr
              have hPa := fun (a1 : Option Addr) (c1 : Nat) (w1 : World) (h : RunsIn w1.heap.size w1 (.slice a1 A.length c1) A) => pairs_any a1 c1 A (by omega) hokA w1 h
              have hPb := fun (a1 : Option Addr) (c1 : Nat) (w1 : World) (h : RunsIn w1.heap.size w1 (.slice a1 Bl.length c1) Bl) => pairs_any a1 c1 Bl (by omega) hokB w1 h
              have hPc := fun (a1 : Option Addr) (c1 : Nat) (w1 : World) (h : RunsIn w1.heap.size w1 (.slice a1 (A ++ Bl).length c1) (A ++ Bl)) => pairs_any a1 c1 (A ++ Bl) (by rw [List.length_append]; omega) (fun r hr => by rcases List.mem_append.1 hr with h1 | h1; exact hokA r h1; exact hokB r h1) w1 h
              have hCx := fun (X : World) (h : RunsIn X.heap.size X (.slice (some ⟨gx, 0, none⟩) A.length cx) A) => copies_any (some ⟨gx, 0, none⟩) cx A (by omega) X h
              have hCy := fun (X : World) (h : RunsIn X.heap.size X (.slice (some ⟨gy, 0, none⟩) Bl.length cy) Bl) => copies_any (some ⟨gy, 0, none⟩) cy Bl (by omega) X h
              rw [hap] at hPc
              have hnP : (solveP A).pairs.length ≤ 1000000000 := by
                have := goP_pairs A A.length (Nat.le_refl _)
                have e : (goP A A.length).pairs = (solveP A).pairs := rfl
                rw [e] at this
                omega
              have hnQ : (solveP Bl).pairs.length ≤ 1000000000 := by
                have := goP_pairs Bl Bl.length (Nat.le_refl _)
                have e : (goP Bl Bl.length).pairs = (solveP Bl).pairs := rfl
                rw [e] at this
                omega
              have HOQ : RowKit.Hid (∀ q ∈ (solveP Bl).pairs, 0 ≤ q.o ∧ q.o ≤ 300 ∧ 0 ≤ q.c ∧ q.c ≤ 300) := fun q hq => by
                obtain ⟨o, c, e1, e2, h1, h2, -⟩ := (solve_count Bl).ok q hq
                omega
              have hab : (A ++ Bl).length = la.length + lb.length := by rw [List.length_append, hlA, hlB]
              have hsh : RowKit.Hid (∀ q, shiftP A.length q = ⟨q.o + la.length, q.c + la.length, q.n⟩) := fun q => by unfold shiftP; rw [hlA]
              have hRy2 := hRy
              rw [hlA] at hRx hCx hPa
              rw [hlB] at hRy hCy hPb
              rw [hab] at hPc
              have HAB := Lib.hid hab
              have HLB := Lib.hid hlB
              have HLA := Lib.hid hlA
              clear hap hokA hokB hA hB hxr hyr HMb hlA hlB hab
              generalize (solveP A).pairs = P at *
              generalize (solveP Bl).pairs = Q at *
              have hPQ : (P ++ Q.map (shiftP A.length)).length = P.length + Q.length := by rw [List.length_append, List.length_map]
              have HGL : RowKit.Hid (∀ i (h : i < P.length), ∃ hb, (P ++ Q.map (shiftP A.length))[i]'hb = P[i]) := fun i h => ⟨by rw [hPQ]; omega, List.getElem_append_left h⟩
              have HGR : RowKit.Hid (∀ i (h : i < Q.length), ∃ hb, (P ++ Q.map (shiftP A.length))[P.length + i]'hb = ⟨Q[i].o + la.length, Q[i].c + la.length, Q[i].n⟩) := fun i h => ⟨by rw [hPQ]; omega, by
                rw [List.getElem_append_right (Nat.le_add_right _ _), List.getElem_map, hsh.out]
                simp⟩
              rw [hPQ] at hPc
              have HPQ := Lib.hid hPQ
              have HPC := Lib.hid hPc
              have HPB := Lib.hid hPb
              have HCX := Lib.hid hCx
              have HCY := Lib.hid hCy
              have HRX := Lib.hid hRx
              have HRY := Lib.hid hRy
              have HRY2 := Lib.hid hRy2
              clear hPQ hsh hPc hPb hCx hCy hRx hRy hRy2 hb
              go_wp2_with fail
              refine (HCX.out wr HRX.out).mono ?_
              rintro e v1 ⟨⟨g5, c5, rfl, hO5⟩, b5⟩
              have hR5 := runsIn_of_owns (l := A) (by rw [HLA.out]; exact hO5)
              go_wp2_with fail
              refine (hPa _ c5 v1 hR5).mono ?_
              rintro e v2 ⟨⟨a6, c6, rfl, hP6⟩, b6⟩
              have B2 := Lib.hid (b5.trans (b6.mono b5.size))
              have HP6 := Lib.hid hP6
              clear hR5 hO5 b5 b6 hP6 hPa
              go_wp2_with fail
              refine (HCY.out v2 (HRY.out.later B2.out)).mono ?_
              rintro e v3 ⟨⟨g7, c7, rfl, hO7⟩, b7⟩
              have hR7 := runsIn_of_owns (l := Bl) (by rw [HLB.out]; exact hO7)
              go_wp2_with fail
              refine (HPB.out _ c7 v3 hR7).mono ?_
              rintro e v4 ⟨⟨a8, c8, rfl, hP8⟩, b8⟩
              have b78 := b7.trans (b8.mono b7.size)
              have B4' := Lib.hid (B2.out.trans (b78.mono B2.out.size))
              have HP64 := Lib.hid (HP6.out.later b78)
              have HP8 := Lib.hid hP8
              clear hR7 hO7 b7 b8 hP8 b78 HP6
              go_wp2_with fail
              refine (HCX.out v4 (HRX.out.later B4'.out)).mono ?_
              rintro e v5 ⟨⟨g9, c9, rfl, hO9⟩, b9⟩
              have hRy5 := (HRY2.out.later B4'.out).later b9
              go_wp2_with (at_builtin; refine RowKit.Hid.out ?_)
              refine Lib.hid ?_
              refine wpList_append_own_at _ rfl _ _ 29 rfl v4.heap.size 42 i0 (.agg #[.int .u8 0, .int .i64 0, .bool false, .bool false]) 4 24 Try.underlying29 hi hz0 hz1 hz2 rfl (by decide) _ la.length (runCells A) rfl (by rw [← HLA.out]; rw [← HLA.out] at hO9; exact hO9) ⟨gy, 0, none⟩ lb.length cy (runCells Bl) rfl (by rw [runCells_length, HLB.out]) (runsIn_cells hRy5) (runCells_one _) (by unfold maxLen; omega) (by omega) b9.size ?_
              intro vz v6 hOz hgz _ _
              have hOz' : v6.ownsRow v4.heap.size 42 4 vz (A ++ Bl).length (runCells (A ++ Bl)) := by
                rw [HAB.out]
                have : runCells (A ++ Bl) = runCells A ++ runCells Bl := by simp [runCells]
                rw [this]
                exact hOz
              have hRz := runsIn_of_owns hOz'
              obtain ⟨az, cz, rfl, -⟩ := ownsRow_slice hOz
              have b6' : Below v4.heap.size v4 v6 := below_grow b9 hgz b9.size (fun g e => ownsRow_base hO9 e)
              have B6 := Lib.hid (B4'.out.trans (b6'.mono B4'.out.size))
              have HP66 := Lib.hid (HP64.out.later b6')
              have HP86 := Lib.hid (HP8.out.later b6')
              have HRZ := Lib.hid hRz
              clear hOz hOz' hgz hO9 b9 b6' hRy5 HP64 HP8 hRz
              go_frame
              go_wp2_with fail
              refine (HPC.out az cz v6 HRZ.out).mono ?_
              rintro e v7 ⟨⟨ar, cr, rfl, hPr⟩, b7⟩
              have HP67 := Lib.hid (HP66.out.later b7)
              have HP87 := Lib.hid (HP86.out.later b7)
              have HPR := Lib.hid hPr
              have B7 := Lib.hid (BX.out.trans ((B6.out.trans (b7.mono B6.out.size)).mono BX.out.size))
              clear hPr b7 HP66 HP86 HRZ HPC HPB HCX HCY HRX HRY HRY2 B2 B4' B6
              have hlen : ((P.length + Q.length : Nat) : Int) = (P.length : Int) + (Q.length : Int) := by omega
              go_wp2_with fail
              go_loopw [12] (fun iv wz => ∃ i : Nat, i ≤ P.length ∧ iv = .int .i64 i ∧ Below v7.heap.size v7 wz) (fun iv _ => P.length - (RowKit.intOf iv).toNat)
              case atStart => exact ⟨0, Nat.zero_le _, rfl, Below.refl _ _⟩
              case round =>
                obtain ⟨i, hil, rfl, hb⟩ := hrel
                have HB := Lib.hid hb
                by_cases hlt : i < P.length
                · have hlt' : (i : Int) < (P.length : Int) := by omega
                  have hlt2 : (i : Int) < (P.length : Int) + (Q.length : Int) := by omega
                  have hlt3 : (i : Int) < ((P.length + Q.length : Nat) : Int) := by omega
                  obtain ⟨g, off, rfl, -, -, hcs⟩ := (HP67.out.below hb).at hlt
                  obtain ⟨p0, p1, p2⟩ := hcs i hlt
                  obtain ⟨h', hge⟩ := HGL.out i hlt
                  have hPR1 := HPR.out.below hb
                  rw [← HPQ.out] at hPR1
                  obtain ⟨gr, offr, rfl, -, -, hcr⟩ := hPR1.at h'
                  obtain ⟨q0, q1, q2⟩ := hcr i h'
                  rw [hge] at q0 q1 q2
                  clear hcs hcr hge hb hPR1
                  generalize P[i] = x at *
                  go_wp2_with fail
                  go_quiet (fail)
                  go_wp2_with fail
                  go_roundw
                  case rel => exact ⟨i + 1, by omega, by go_num, below_drewN HB.out⟩
                  case measure => simp [RowKit.intOf]; omega
                · have hlt' : ¬ (i : Int) < (P.length : Int) := by omega
                  rename World => v8
                  go_wp2_with fail
                  go_loopw [13] (fun iv wz => ∃ i : Nat, i ≤ Q.length ∧ iv = .int .i64 i ∧ Below v7.heap.size v7 wz) (fun iv _ => Q.length - (RowKit.intOf iv).toNat)
                  case atStart => exact ⟨0, Nat.zero_le _, rfl, hb⟩
                  case round =>
                    obtain ⟨k, hkl, rfl, hbk⟩ := hrel
                    have HBK := Lib.hid hbk
                    by_cases hkt : k < Q.length
                    · have hkt' : (k : Int) < (Q.length : Int) := by omega
                      obtain ⟨g, off, rfl, -, -, hcs⟩ := (HP87.out.below hbk).at hkt
                      obtain ⟨p0, p1, p2⟩ := hcs k hkt
                      obtain ⟨h', hge⟩ := HGR.out k hkt
                      have hPR1 := HPR.out.below hbk
                      rw [← HPQ.out] at hPR1
                      obtain ⟨gr, offr, rfl, -, -, hcr⟩ := hPR1.at h'
                      obtain ⟨q0, q1, q2⟩ := hcr (P.length + k) h'
                      rw [hge] at q0 q1 q2
                      have hoq := HOQ.out Q[k] (List.getElem_mem hkt)
                      obtain ⟨jj, hjj⟩ : ∃ jj : Nat, jj = P.length + k := ⟨_, rfl⟩
                      rw [← hjj] at q0 q1 q2
                      have hj1 : (P.length : Int) + (k : Int) = (jj : Int) := by omega
                      have hj2 : (jj : Int) < (P.length : Int) + (Q.length : Int) := by omega
                      have hj3 : (jj : Int) < ((P.length + Q.length : Nat) : Int) := by omega
                      clear hcs hcr hge hbk hPR1 hjj
                      generalize Q[k] = y at *
                      dsimp only at q0 q1 q2
                      obtain ⟨o1, o2, o3, o4⟩ := hoq
                      go_wp2_with fail
                      go_quiet (fail)
                      go_wp2_with fail
                      go_roundw
                      case rel => exact ⟨k + 1, by omega, by go_num, below_drewN HBK.out⟩
                      case measure => simp [RowKit.intOf]; omega
                    · have hkt' : ¬ (k : Int) < (Q.length : Int) := by omega
                      go_wp2_with fail
                      go_ret
                      exact ⟨rfl, B7.out.trans (HBK.out.mono B7.out.size)⟩
    · rw [hg'] at hGb
      go_enter Try.func9, Try.ntmps9
      go_wp2_with fail
      refine (emphAlive_any _).mono ?_
      rintro e w1 ⟨rfl, b1⟩
      go_wp2_with fail
      refine (hGa w1 (HIa.out.later b1)).mono ?_
      rintro e w2 ⟨rfl, rfl⟩
      go_wp2_with fail
      refine (hGb _ (HIb.out.later b1)).mono ?_
      rintro e w2 ⟨rfl, rfl⟩
      go_wp2_with fail
      go_ret
      exact ⟨rfl, b1⟩
  · rw [hg] at hGa
    go_enter Try.func9, Try.ntmps9
    go_wp2_with fail
    refine (emphAlive_any _).mono ?_
    rintro e w1 ⟨rfl, b1⟩
    go_wp2_with fail
    refine (hGa w1 (HIa.out.later b1)).mono ?_
    rintro e w2 ⟨rfl, rfl⟩
    go_wp2_with fail
    go_ret
    exact ⟨rfl, b1⟩
end emphApart
end Go.Proofs.Ytnijcglmfpiheaa
