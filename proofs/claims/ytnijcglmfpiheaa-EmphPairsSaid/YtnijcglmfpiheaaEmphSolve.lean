/-
  solve: each row has its turn. Conditions: bounds on sizes.
-/
import Derived.Test.YtnijcglmfpiheaaEmphGrow
set_option linter.unusedSimpArgs false
set_option linter.unusedVariables false
namespace Go.Proofs.Ytnijcglmfpiheaa
open Go.RowKit Go.Lib Go.WideMaps

theorem infoPtr : (Try.prog.info? 68).map (fun i => (i.zero, i.size, i.bytes)) = some (some (.pointer none), 1, 8) := by kernel_rfl
theorem newPtr {w : World} (v : Value) (T : TypeId) : ∀ (j : Nat) (u : Value), ([v] : List Value)[j]? = some u → (w.alloc (.cells #[v] T)).cell? ((⟨w.heap.size, 0, none⟩ : Addr).add j) = some u := by
  intro j u hu
  have hn := heap_alloc_new w (.cells #[v] T)
  rw [Addr.add_lit, Nat.zero_add]
  simp only [World.cell?, hn]
  simpa using hu
theorem block_four {w : World} {L : Nat} {a b c d : Value} {T : TypeId} (h : w.heap[L]? = some (.cells #[a, b, c, d] T)) :
    w.cell? ⟨L, 0, none⟩ = some a ∧ w.cell? ⟨L, 1, none⟩ = some b ∧ w.cell? ⟨L, 2, none⟩ = some c ∧ w.cell? ⟨L, 3, none⟩ = some d := by
  simp [World.cell?, h]
/-- What stands when the m-th row has its turn. -/
structure SolW (N : Nat) (l : List RunP) (S B m : Nat) (wr : World) (vr : Value) (R : Nat → Nat) (n : Nat) : Prop where
  em : EmW N vr.ownBlock l m R S B n (goP l m) wr
  rows : wr.ownsRow N 68 1 vr m ((List.range m).map (ptrC R))
  n : n ≤ m * 1048577
theorem startEm (l : List RunP) (X : World) (N S B : Nat) (hN : N ≤ B) (hS : X.heap[S]? = some (.cells #[.slice none 0 0, .map (some B), .slice none 0 0] 79)) (hNS : N ≤ S) (hB : X.ownsMap (H := Unit) Try.prog 92 (plainElem Try.prog 3) B 0 (.map [])) (R : Nat → Nat) : SolW N l S B 0 X (.slice none 0 0) R 0 :=
  ⟨⟨hNS, hN, fun i hi => by omega, fun i j hi => by omega, fun i hi => by omega, ⟨_, _, hS, World.ownsRow_nil _ _ _ _, World.ownsRow_nil _ _ _ _, .inl rfl⟩, _, hB, botI_start l []⟩, World.ownsRow_nil _ _ _ _, Nat.zero_le _⟩

/-- What stands when a row has been laid, and its address. -/
theorem laid_facts (wr : World) (r : RunP) (z : Int) (m : Nat) : (fun X : World => Below wr.heap.size wr X ∧ X.heap[wr.heap.size]? = some (.cells #[.int .u8 r.mark, .int .i64 r.n, .bool r.op, .bool r.cl] 42) ∧ X.heap[wr.heap.size + 1]? = some (.cells (rowC r z m) 70) ∧
    (∀ j u, ([.pointer (some ⟨wr.heap.size + 1, 0, none⟩)] : List Value)[j]? = some u → X.cell? ((⟨wr.heap.size + 1 + 1, 0, none⟩ : Addr).add j) = some u) ∧ X.heap.size = wr.heap.size + 3)
    (((wr.alloc (.cells #[.int .u8 r.mark, .int .i64 r.n, .bool r.op, .bool r.cl] 42)).alloc (.cells #[.int .u8 r.mark, .int .i64 r.n, .bool r.op, .bool r.cl, .int .i64 z, .int .i64 m] 70)).alloc (.cells #[.pointer (some ⟨wr.heap.size + 1, 0, none⟩)] 68)) := by
  have n1 := heap_alloc_new wr (.cells #[.int .u8 r.mark, .int .i64 r.n, .bool r.op, .bool r.cl] 42)
  generalize hw1 : wr.alloc (.cells #[.int .u8 r.mark, .int .i64 r.n, .bool r.op, .bool r.cl] 42) = w1 at *
  have s1 : w1.heap.size = wr.heap.size + 1 := by rw [← hw1]; simp
  have b1 : Below wr.heap.size wr w1 := by rw [← hw1]; exact (Below.refl _ wr).alloc (Nat.le_refl _) _
  have n2 := heap_alloc_new w1 (.cells #[.int .u8 r.mark, .int .i64 r.n, .bool r.op, .bool r.cl, .int .i64 z, .int .i64 m] 70)
  generalize hw2 : w1.alloc (.cells #[.int .u8 r.mark, .int .i64 r.n, .bool r.op, .bool r.cl, .int .i64 z, .int .i64 m] 70) = w2 at *
  have s2 : w2.heap.size = w1.heap.size + 1 := by rw [← hw2]; simp
  have b2 : Below w1.heap.size w1 w2 := by rw [← hw2]; exact (Below.refl _ w1).alloc (Nat.le_refl _) _
  have n3 := newPtr (w := w2) (.pointer (some ⟨wr.heap.size + 1, 0, none⟩)) 68
  have b3 : Below w2.heap.size w2 (w2.alloc (.cells #[.pointer (some ⟨wr.heap.size + 1, 0, none⟩)] 68)) := (Below.refl _ w2).alloc (Nat.le_refl _) _
  have s3 : (w2.alloc (.cells #[.pointer (some ⟨wr.heap.size + 1, 0, none⟩)] 68)).heap.size = w2.heap.size + 1 := by simp
  rw [s1] at n2
  rw [s2, s1] at n3
  refine ⟨b1.trans ((b2.mono (by omega)).trans (b3.mono (by omega))), (b3.block _ (by omega)).trans ((b2.block _ (by omega)).trans n1), (b3.block _ (by omega)).trans n2, n3, by omega⟩

set_option maxRecDepth 100000 in
set_option maxHeartbeats 16000000 in
theorem solve_any (a : Option Addr) (cap : Nat) (l : List RunP) (hll : l.length ≤ 1000000) (hok : ∀ r ∈ l, RunOk r) (w : World) (hI : RunsIn w.heap.size w (.slice a l.length cap) l) :
    Calls Try.prog 35 #[.slice a l.length cap] w fun e w' => (∃ vp vr R, e = .returned (.tuple #[vp, vr]) ∧ w'.ownsRow w.heap.size 40 3 vp (solveP l).pairs.length (pairCells (solveP l).pairs) ∧ w'.ownsRow w.heap.size 68 1 vr l.length ((List.range l.length).map (ptrC R)) ∧ ∀ i, i < l.length → w'.heap[R i]? = some (.cells (rowC l[i]! (solveP l).left[i]! i) 70)) ∧ Below w.heap.size w w' := by
  have mixed : Try.prog.follows Departure.mixedOrders = true := rfl
  obtain ⟨i0, hi, hz0, hz1, hz2⟩ := info_parts infoPtr
  have HI := Lib.hid hI
  clear hI
  have hmk := run_makeMap (P := Try.prog) 77 w
  have hmade := World.ownsMap_made (H := Unit) w Try.prog 92 (plainElem Try.prog 3)
  have HST : RowKit.Hid (SolW w.heap.size l (w.heap.size + 1) w.heap.size 0 ((w.alloc (.map #[] 0)).alloc (.cells #[.slice none 0 0, .map (some w.heap.size), .slice none 0 0] 79)) (.slice none 0 0) (fun _ => 0) 0) := by
    refine startEm l _ w.heap.size (w.heap.size + 1) w.heap.size (Nat.le_refl _) ?_ (Nat.le_succ _) (hmade.alloc _) _
    have := heap_alloc_new (w.alloc (.map #[] 0)) (.cells #[.slice none 0 0, .map (some w.heap.size), .slice none 0 0] 79)
    simpa using this
  clear hmade
  go_enter Try.func35, Try.ntmps35
  go_wp2_with fail
  go_loopw [5, 6, 7, 8, 14] (fun vr _ _ _ iv wr => ∃ (m : Nat) (R : Nat → Nat) (n : Nat), m ≤ l.length ∧ iv = .int .i64 m ∧ SolW w.heap.size l (w.heap.size + 1) w.heap.size m wr vr R n ∧ Below w.heap.size w wr) (fun _ _ _ _ iv _ => l.length - (RowKit.intOf iv).toNat)
  case atStart => exact ⟨0, _, 0, Nat.zero_le _, rfl, HST.out, ((Below.refl _ w).alloc (Nat.le_refl _) _).alloc (by simp) _⟩
  case round =>
    clear HST
    obtain ⟨m, R, n, hm, rfl, hS, hb⟩ := hrel
    have HB := Lib.hid hb
    have HS := Lib.hid hS
    by_cases hml : m < l.length
    · have hml' : (m : Int) < (l.length : Int) := by omega
      have hm0 : (0 : Int) ≤ (m : Int) := by omega
      obtain ⟨g, off, rfl, hgl, -, hc⟩ := (HI.out.below hb).at hml
      obtain ⟨h0, h1, h2, h3⟩ := hc m hml
      have hgt : (goP l m).left[m]! = startL l[m]! := goP_later l m (by omega) m (Nat.le_refl _) hml
      rw [getElem!_pos l m hml] at hgt
      have HGT := Lib.hid hgt
      have HRM : RowKit.Hid (l[m]! = l[m]) := getElem!_pos l m hml
      have HOKM := hok l[m] (List.getElem_mem hml)
      have hpart : l[m].n < 1 ∨ ¬ l[m].n < 1 ∧ l[m].n > 1048576 ∨ ¬ l[m].n < 1 ∧ ¬ l[m].n > 1048576 := by omega
      have HPART : RowKit.Hid (startL l[m] = if l[m].n < 1 ∨ 1048576 < l[m].n then 0 else l[m].n) := rfl
      clear hS hb hc hgt hmk
      generalize l[m] = r at *
      rcases hpart with hp | ⟨hp, hq⟩ | ⟨hp, hq⟩
      all_goals go_wp2_with (at_builtin; refine RowKit.Hid.out ?_)
      all_goals first
        | (have hsl : (0 : Int) = startL r := (by rw [HPART.out, if_pos (by omega)])
           obtain ⟨hBX, hP7, hP8, hNW, hXs⟩ := laid_facts wr r 0 m
           generalize (((wr.alloc (.cells #[.int .u8 r.mark, .int .i64 r.n, .bool r.op, .bool r.cl] 42)).alloc (.cells #[.int .u8 r.mark, .int .i64 r.n, .bool r.op, .bool r.cl, .int .i64 0, .int .i64 m] 70)).alloc (.cells #[.pointer (some ⟨wr.heap.size + 1, 0, none⟩)] 68)) = X at *
           replace hP8 : X.heap[wr.heap.size + 1]? = some (.cells (rowC r (startL r) m) 70) := (by rw [hP8, ← hsl])
           clear hsl)
        | (have hsl : r.n = startL r := (by rw [HPART.out, if_neg (by omega)])
           obtain ⟨hBX, hP7, hP8, hNW, hXs⟩ := laid_facts wr r r.n m
           generalize (((wr.alloc (.cells #[.int .u8 r.mark, .int .i64 r.n, .bool r.op, .bool r.cl] 42)).alloc (.cells #[.int .u8 r.mark, .int .i64 r.n, .bool r.op, .bool r.cl, .int .i64 r.n, .int .i64 m] 70)).alloc (.cells #[.pointer (some ⟨wr.heap.size + 1, 0, none⟩)] 68)) = X at *
           replace hP8 : X.heap[wr.heap.size + 1]? = some (.cells (rowC r (startL r) m) 70) := (by rw [hP8, ← hsl])
           clear hsl)
      all_goals
        refine Lib.hid ?_
        refine wpList_append_own_at _ rfl _ _ 62 rfl w.heap.size 68 i0 (.pointer none) 1 8 Try.underlying62 hi hz0 hz1 hz2 rfl (by decide) _ m ((List.range m).map (ptrC R)) rfl (ownsRow_below HS.out.rows hBX) ⟨wr.heap.size + 1 + 1, 0, none⟩ 1 1 [.pointer (some ⟨wr.heap.size + 1, 0, none⟩)] rfl rfl hNW (by simp [Value.oneCell']) (by unfold maxLen; omega) (by omega) (by have := HB.out.size; omega) ?_
        intro vr' w5 hR5 hg5 _ hv5
        have hG := goP_good l m (by omega)
        have hgl := good_len hG
        have hT : ∀ g, u5.ownBlock = some g → w.heap.size ≤ g ∧ ∃ cs fr, X.heap[g]? = some (.cells cs 68 fr) := fun g e => by
          obtain ⟨cs, fr, hc⟩ := ownsRow_typed HS.out.rows g e
          exact ⟨ownsRow_base HS.out.rows e, cs, fr, (hBX.block _ (Array.getElem?_eq_some_iff.1 hc).1).trans hc⟩
        have hE1 := HS.out.em.newRow (w1 := X) (P8 := wr.heap.size + 1) (fun x hx => (hG.open_ x hx).1) hBX (Nat.le_succ _) (by rw [HRM.out, HGT.out]; exact hP8)
        rw [range_ptr] at hR5
        obtain ⟨R', hR'⟩ : ∃ R' : Nat → Nat, R' = fun i => if i = m then wr.heap.size + 1 else R i := ⟨_, rfl⟩
        rw [← hR'] at hE1 hR5
        have hRP : R' m = wr.heap.size + 1 := by rw [hR']; simp
        have HRP := Lib.hid hRP
        have hE5 := hE1.rowsOf (Below.refl _ X) hg5 hT hv5
        have p7b : w5.heap[wr.heap.size]? = some (.cells #[.int .u8 r.mark, .int .i64 r.n, .bool r.op, .bool r.cl] 42) := (hg5.block _ (by omega) fun e => by
          obtain ⟨-, cs, fr, hc⟩ := hT _ e.symm
          exact unlike_cells hP7 (by decide) hc).trans hP7
        have B5 : Below w.heap.size w w5 := by
          have hbx := HB.out.trans (hBX.mono HB.out.size)
          exact ⟨hg5.os.trans hbx.os, hg5.tape.trans hbx.tape, hg5.output.trans hbx.output, Nat.le_trans hbx.size hg5.size, fun i hi => (hg5.block i (Nat.lt_of_lt_of_le hi hbx.size) fun e => by have := (hT _ e.symm).1; omega).trans (hbx.block i hi)⟩
        have hle := hG.high _ (nth_mem (show m < (goP l m).left.length by rw [hG.len]; omega))
        have hpr := goP_pairs l m (by omega)
        have hnS := HS.out.n
        have hcN : n + (goP l m).left[m]!.toNat ≤ 2000000000000 := by omega
        have hcP : (goP l m).pairs.length + (goP l m).left[m]!.toNat ≤ 2000000000000 := by omega
        have hclose := close_any m (Nat.lt_succ_self m) (show m + 1 ≤ l.length by omega) hll hok hG hcN hcP w5 hE5
        rw [hRP] at hclose
        have hgC := closeP_good (show m < l.length by omega) hG
        have E5 := Lib.hid hE5
        have R5 := Lib.hid hR5
        have BB5 := Lib.hid B5
        have P7B := Lib.hid p7b
        obtain ⟨-, -, p7, p7c⟩ := block_four p7b
        clear hE1 hE5 hR5 hg5 hv5 hT hP7 hP8 hNW hBX hXs p7b B5 hR' hRP
        cases hcl : r.cl
        · rw [hcl] at p7c
          obtain ⟨p8, -, -⟩ := E5.out.rowCells (Nat.lt_succ_self m)
          rw [HRP.out] at p8
          have HT : RowKit.Hid (goP l (m + 1) = if (r.op && decide (0 < (goP l m).left[m]!)) = true then { goP l m with stack := (goP l m).stack ++ [m] } else goP l m) := by
            show turnP l m (goP l m) = _
            unfold turnP
            rw [HRM.out, hcl]
            rfl
          have good_len6 : RowKit.Hid ((goP l m).stack.length ≤ 1000000) := (by omega : (goP l m).stack.length ≤ 1000000)
          have K6 := E5
          have R6 := R5
          have B6 := BB5
          have hn6 : n ≤ (m + 1) * 1048577 := Nat.le_trans hnS (Nat.mul_le_mul_right _ (Nat.le_succ m))
          clear hclose hgC hG E5 R5 BB5 hpr hnS hcN hcP
          generalize (goP l m).left[m]! = lm at *
          generalize goP l m = t at *
          generalize n = n6 at *
          generalize w5 = w6 at *
          go_frame
          cases hop : r.op
          · rw [hop] at p7
            have HE : RowKit.Hid (SolW w.heap.size l (w.heap.size + 1) w.heap.size (m + 1) w6 vr' R' n6) := ⟨by rw [HT.out, hop]; simpa using K6.out, R6.out, hn6⟩
            clear HT K6 R6
            go_wp2_with fail
            go_roundw
            case rel => exact ⟨m + 1, R', n6, by omega, by go_num, HE.out, B6.out⟩
            case measure => simp [RowKit.intOf]; omega
          · rw [hop] at p7
            by_cases hlp : 0 < lm
            · have hTT : goP l (m + 1) = { t with stack := t.stack ++ [m] } := by rw [HT.out, hop, if_pos (by simpa using hlp)]
              obtain ⟨vs, vp, hSS, hvs, hvp, hro⟩ := K6.out.sol
              obtain ⟨sa, scap, rfl, hcap⟩ := ownsRow_slice hvs
              obtain ⟨s0, -, -, -⟩ := block_three hSS
              have hsl := good_len6.out
              go_wp2_with (at_builtin; refine RowKit.Hid.out ?_)
              refine Lib.hid ?_
              refine wpList_append_own_at _ rfl _ _ 62 rfl w.heap.size 68 i0 (.pointer none) 1 8 Try.underlying62 hi hz0 hz1 hz2 rfl (by decide) _ t.stack.length (t.stack.map (ptrC R')) rfl (hvs.alloc _) ⟨w6.heap.size, 0, none⟩ 1 1 [.pointer (some ⟨wr.heap.size + 1, 0, none⟩)] rfl rfl (newPtr _ _) (by simp [Value.oneCell']) (by unfold maxLen; omega) (by omega) (by have := B6.out.size; simp; omega) ?_
              intro v7 w7 hR7 hg7 _ hv7
              obtain ⟨a7, c7, rfl, -⟩ := ownsRow_slice hR7
              have hR7' : w7.ownsRow w.heap.size 68 1 (.slice a7 (t.stack.length + 1) c7) (t.stack.length + 1) (t.stack.map (ptrC R') ++ [ptrC R' m]) := by
                have : ptrC R' m = .pointer (some ⟨wr.heap.size + 1, 0, none⟩) := by unfold ptrC; rw [HRP.out]
                rw [this]; exact hR7
              obtain ⟨q1, q2, q3, q4⟩ := K6.out.push hSS hvs hvp hro ((Below.refl _ w6).alloc (Nat.le_refl _) _) hR7' hg7 hv7 (fun g e => by obtain ⟨cs, fr, hc⟩ := ownsRow_typed R6.out g e; exact (Array.getElem?_eq_some_iff.1 hc).1)
              obtain ⟨z0, -, -, -⟩ := block_three q3
              have zf : w7.frozen? ⟨w.heap.size + 1, 0, none⟩ = false := by simp [World.frozen?, q3]
              have HE : RowKit.Hid (SolW w.heap.size l (w.heap.size + 1) w.heap.size (m + 1) (w7.setCell ⟨w.heap.size + 1, 0, none⟩ (.slice a7 (t.stack.length + 1) c7)) vr' R' n6) := ⟨by rw [hTT]; exact q1, q4 _ _ _ rfl R6.out, hn6⟩
              have BE : RowKit.Hid (Below w.heap.size w (w7.setCell ⟨w.heap.size + 1, 0, none⟩ (.slice a7 (t.stack.length + 1) c7))) := B6.out.trans q2
              clear q1 q2 q3 q4 hR7 hR7' hg7 hv7 hSS hvs hvp hro HT K6 R6 hTT s0
              go_frame
              go_wp2_with fail
              go_roundw
              case rel => exact ⟨m + 1, R', n6, by omega, by go_num, HE.out, BE.out⟩
              case measure => simp [RowKit.intOf]; omega
            · have HE : RowKit.Hid (SolW w.heap.size l (w.heap.size + 1) w.heap.size (m + 1) w6 vr' R' n6) := ⟨by rw [HT.out, hop, if_neg (by simpa using hlp)]; exact K6.out, R6.out, hn6⟩
              clear HT K6 R6
              go_wp2_with fail
              go_roundw
              case rel => exact ⟨m + 1, R', n6, by omega, by go_num, HE.out, B6.out⟩
              case measure => simp [RowKit.intOf]; omega
        · rw [hcl] at p7c
          go_frame
          go_wp2_with fail
          refine hclose.mono ?_
          rintro e w6 ⟨rfl, k6, kk6⟩
          obtain ⟨p8, -, -⟩ := k6.rowCells (Nat.lt_succ_self m)
          rw [HRP.out] at p8
          obtain ⟨-, -, p7', -⟩ := block_four (kk6.ptrs _ _ _ _ (.inr rfl) P7B.out)
          have HT : RowKit.Hid (goP l (m + 1) = if (r.op && decide (0 < (closeP l m (goP l m)).left[m]!)) = true then { closeP l m (goP l m) with stack := (closeP l m (goP l m)).stack ++ [m] } else closeP l m (goP l m)) := by
            show turnP l m (goP l m) = _
            unfold turnP
            rw [HRM.out, hcl]
            rfl
          have good_len6 : RowKit.Hid ((closeP l m (goP l m)).stack.length ≤ 1000000) := (by have := good_len hgC; omega : (closeP l m (goP l m)).stack.length ≤ 1000000)
          have K6 := Lib.hid k6
          have R6 := Lib.hid (rows_keep R5.out kk6)
          have B6 := Lib.hid (BB5.out.trans kk6.below)
          have hn6 : n + (goP l m).left[m]!.toNat + 1 ≤ (m + 1) * 1048577 := by omega
          clear hclose hgC hG E5 R5 BB5 hpr hnS hcN hcP k6 kk6 p7 p7c
          have p7 := p7'
          clear p7'
          generalize n + (goP l m).left[m]!.toNat + 1 = n6 at *
          generalize (closeP l m (goP l m)).left[m]! = lm at *
          generalize closeP l m (goP l m) = t at *
          cases hop : r.op
          · rw [hop] at p7
            have HE : RowKit.Hid (SolW w.heap.size l (w.heap.size + 1) w.heap.size (m + 1) w6 vr' R' n6) := ⟨by rw [HT.out, hop]; simpa using K6.out, R6.out, hn6⟩
            clear HT K6 R6
            go_wp2_with fail
            go_roundw
            case rel => exact ⟨m + 1, R', n6, by omega, by go_num, HE.out, B6.out⟩
            case measure => simp [RowKit.intOf]; omega
          · rw [hop] at p7
            by_cases hlp : 0 < lm
            · have hTT : goP l (m + 1) = { t with stack := t.stack ++ [m] } := by rw [HT.out, hop, if_pos (by simpa using hlp)]
              obtain ⟨vs, vp, hSS, hvs, hvp, hro⟩ := K6.out.sol
              obtain ⟨sa, scap, rfl, hcap⟩ := ownsRow_slice hvs
              obtain ⟨s0, -, -, -⟩ := block_three hSS
              have hsl := good_len6.out
              go_wp2_with (at_builtin; refine RowKit.Hid.out ?_)
              refine Lib.hid ?_
              refine wpList_append_own_at _ rfl _ _ 62 rfl w.heap.size 68 i0 (.pointer none) 1 8 Try.underlying62 hi hz0 hz1 hz2 rfl (by decide) _ t.stack.length (t.stack.map (ptrC R')) rfl (hvs.alloc _) ⟨w6.heap.size, 0, none⟩ 1 1 [.pointer (some ⟨wr.heap.size + 1, 0, none⟩)] rfl rfl (newPtr _ _) (by simp [Value.oneCell']) (by unfold maxLen; omega) (by omega) (by have := B6.out.size; simp; omega) ?_
              intro v7 w7 hR7 hg7 _ hv7
              obtain ⟨a7, c7, rfl, -⟩ := ownsRow_slice hR7
              have hR7' : w7.ownsRow w.heap.size 68 1 (.slice a7 (t.stack.length + 1) c7) (t.stack.length + 1) (t.stack.map (ptrC R') ++ [ptrC R' m]) := by
                have : ptrC R' m = .pointer (some ⟨wr.heap.size + 1, 0, none⟩) := by unfold ptrC; rw [HRP.out]
                rw [this]; exact hR7
              obtain ⟨q1, q2, q3, q4⟩ := K6.out.push hSS hvs hvp hro ((Below.refl _ w6).alloc (Nat.le_refl _) _) hR7' hg7 hv7 (fun g e => by obtain ⟨cs, fr, hc⟩ := ownsRow_typed R6.out g e; exact (Array.getElem?_eq_some_iff.1 hc).1)
              obtain ⟨z0, -, -, -⟩ := block_three q3
              have zf : w7.frozen? ⟨w.heap.size + 1, 0, none⟩ = false := by simp [World.frozen?, q3]
              have HE : RowKit.Hid (SolW w.heap.size l (w.heap.size + 1) w.heap.size (m + 1) (w7.setCell ⟨w.heap.size + 1, 0, none⟩ (.slice a7 (t.stack.length + 1) c7)) vr' R' n6) := ⟨by rw [hTT]; exact q1, q4 _ _ _ rfl R6.out, hn6⟩
              have BE : RowKit.Hid (Below w.heap.size w (w7.setCell ⟨w.heap.size + 1, 0, none⟩ (.slice a7 (t.stack.length + 1) c7))) := B6.out.trans q2
              clear q1 q2 q3 q4 hR7 hR7' hg7 hv7 hSS hvs hvp hro HT K6 R6 hTT s0
              go_frame
              go_wp2_with fail
              go_roundw
              case rel => exact ⟨m + 1, R', n6, by omega, by go_num, HE.out, BE.out⟩
              case measure => simp [RowKit.intOf]; omega
            · have HE : RowKit.Hid (SolW w.heap.size l (w.heap.size + 1) w.heap.size (m + 1) w6 vr' R' n6) := ⟨by rw [HT.out, hop, if_neg (by simpa using hlp)]; exact K6.out, R6.out, hn6⟩
              clear HT K6 R6
              go_wp2_with fail
              go_roundw
              case rel => exact ⟨m + 1, R', n6, by omega, by go_num, HE.out, B6.out⟩
              case measure => simp [RowKit.intOf]; omega
    · obtain rfl : m = l.length := by omega
      obtain ⟨vs, vp, hh, -, hvp, -⟩ := hS.em.sol
      obtain ⟨-, -, s2, -⟩ := block_three hh
      have HVP := Lib.hid hvp
      clear hS hh hvp hb
      go_wp2_with fail
      go_ret2
      exact ⟨⟨vp, _, R, rfl, HVP.out, HS.out.rows, fun i hi => HS.out.em.row i hi⟩, HB.out⟩
end Go.Proofs.Ytnijcglmfpiheaa
