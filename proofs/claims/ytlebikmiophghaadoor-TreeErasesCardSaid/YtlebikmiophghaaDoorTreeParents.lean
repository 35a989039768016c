/-
  tree.parents: of each node its parent, for a right tree. Conditions: bounds on sizes.
-/
import Derived.Test.YtlebikmiophghaaDoorTreeW
import Derived.Test.YtlebikmiophghaaDoorTreeCopy
import Derived.BigQuiet
import Derived.BigRegion
import Derived.StillTailTactics
import Derived.IntWalk
set_option linter.unusedSimpArgs false
set_option linter.unusedVariables false
namespace Go.Proofs.YtlebikmiophghaaDoor
open Go.RowKit Go.Lib

/-- A node whose parts are not beyond what memory holds. -/
structure NodeOk (x : NodeP) : Prop where
  text : x.text.size ≤ 140737488355328
  link : x.link.size ≤ 140737488355328
  title : x.title.size ≤ 140737488355328
  kids : x.kids.length * 8 ≤ 140737488355328
  pieces : x.pieces.length * 16 ≤ 140737488355328
  level : -9223372036854775808 ≤ x.level ∧ x.level ≤ 9223372036854775807
  till : -9223372036854775808 ≤ x.to ∧ x.to ≤ 9223372036854775807
/-- What tree.parents answers. -/
def ParOut (l : List NodeP) (N : Nat) (e : Ending) (w' : World) : Prop :=
  (parentsP l = none ∧ e = .returned (.tuple #[.slice none 0 0, .bool false])) ∨ ∃ up v, parentsP l = some up ∧ e = .returned (.tuple #[v, .bool true]) ∧ w'.ownsRow N 3 1 v up.length (intCells up)
theorem three_draws {w5 wq : World} {q a b : Nat} (h : w5.drewN q = wq) : (wq.drewN a).drewN b = w5.drewN (q + a + b) := by
  rw [← h]; simp [World.drewN, Nat.add_assoc]
theorem two_draws {w5 wq : World} {q a : Nat} (h : w5.drewN q = wq) : wq.drewN a = w5.drewN (q + a) := by
  rw [← h]; simp [World.drewN, Nat.add_assoc]
def valLen : Value → Nat
  | .slice _ n _ => n
  | _ => 0

theorem intCells_made (n : Nat) : (madeCells (Value.int .i64 0).cells (n * 1)).toList = intCells (List.replicate n 0) := by
  show (madeCells #[.int .i64 0] (n * 1)).toList = _
  rw [toList_madeCells_one, Nat.mul_one]
  simp [intCells]
theorem par_start {w w3 : World} {bx : Value} {n : Nat} (hD : w3.ownsRow w.heap.size 3 1 (.slice (some ⟨w.heap.size + 1, 0, none⟩) n n) n (madeCells (Value.int .i64 0).cells (n * 1)).toList) (hg : (w.alloc (.cells #[bx] 24)).grownBy w3 none) :
    ParW w bx n 0 [] [] (.slice (some ⟨w.heap.size + 1, 0, none⟩) n n) (.slice (some ⟨w3.heap.size, 0, none⟩) 1 1) (.slice none 0 0) (w3.alloc (.cells #[.int .i64 (-1)] 3)) := by
  have hlt := (ownsRow_lt hD (show (Value.slice (some ⟨w.heap.size + 1, 0, none⟩) n n).ownBlock = some (w.heap.size + 1) from rfl)).2
  have hb3 : Below w.heap.size w w3 := Below.grown ((Below.refl _ w).alloc (Nat.le_refl _) _) hg (by simp) (fun g e => by cases e)
  have hA : Below w3.heap.size w3 (w3.alloc (.cells #[.int .i64 (-1)] 3)) := (Below.refl _ w3).alloc (Nat.le_refl _) _
  have hbox : w3.heap[w.heap.size]? = some (.cells #[bx] 24) := by
    rw [hg.block w.heap.size (by simp) (by simp)]; exact heap_alloc_new w _
  rw [intCells_made] at hD
  refine ⟨(hA.block _ (by omega)).trans hbox, ?_, World.ownsRow_nil _ _ _ _, ?_, ?_, ?_, ApartV.none_left _, hb3.trans (hA.mono hb3.size)⟩
  · exact ⟨rfl, .inr ⟨w3.heap.size, 1, #[.int .i64 (-1)], rfl, hb3.size, heap_alloc_new w3 _, Nat.le_refl _, by unfold maxLen; decide, rfl, rfl⟩⟩
  · simpa using ownsRow_below hD hA
  · intro g h1 h2
    injection h1 with h1
    injection h2 with h2
    simp only at h1 h2
    omega
  · exact (ApartV.none_left _).symm

set_option maxRecDepth 100000 in
set_option maxHeartbeats 16000000 in
theorem parents_any (a : Option Addr) (cap : Nat) (l : List NodeP) (hl : l.length ≤ 100000) (hok : ∀ x ∈ l, NodeOk x) (w : World) (hI : NodesIn w.heap.size w (.slice a l.length cap) l) :
    Calls Tryd.prog 35 #[.agg #[.slice a l.length cap]] w fun e w' => ParOut l w.heap.size e w' ∧ Below w.heap.size w w' := by
  have mixed : Tryd.prog.follows Departure.mixedOrders = true := rfl
  obtain ⟨i0, hi, hz0, hz1, hz2⟩ := info_parts infoInt
  have HZ2 := Lib.hid hz2
  have HI := Lib.hid hI
  have HOK := Lib.hid hok
  have hNB : Below w.heap.size w (w.alloc (.cells #[.slice a l.length cap] 24)) := (Below.refl _ w).alloc (Nat.le_refl _) _
  clear hI hok
  by_cases h0 : l.length = 0
  · have HP : RowKit.Hid (parentsP l = none) := by
      show _ = _
      unfold parentsP
      rw [if_neg (by omega)]
    go_enter Tryd.func35, Tryd.ntmps35
    go_wp2_with fail
    go_ret2
    exact ⟨.inl ⟨HP.out, rfl⟩, (Below.refl _ w).alloc (Nat.le_refl _) _⟩
  · have h0p : 0 < l.length := by omega
    have h0i : ((l.length : Int) == 0) = false := by rw [beq_eq_false_iff_ne]; omega
    obtain ⟨g, off, rfl, hgl, -, hcs⟩ := HI.out.at h0p
    have HND : RowKit.Hid (∀ X, Below w.heap.size w X → ∀ j (h : j < l.length), NodeAt w.heap.size X g (off + j * 10) l[j]) := fun X h j hj => (hcs j hj).below hgl h
    have k0 := (HND.out _ hNB 0 h0p).kind
    have HK0 : RowKit.Hid (l[0]! = l[0]) := getElem!_pos l 0 h0p
    rw [show off + 0 * 10 = off by omega] at k0
    by_cases hk : l[0].kind = 1
    · have hkn : (l[0].kind != 1) = false := by rw [hk]; rfl
      have HL0 : RowKit.Hid (l[0]!.kind = 1) := by show _ = _; rw [HK0.out]; exact hk
      clear hcs hk h0 HK0
      generalize l[0].kind = k0v at *
      go_enter Tryd.func35, Tryd.ntmps35
      go_wp2_with (refine wpList_make_full _ rfl _ _ 29 rfl w.heap.size 3 i0 (.int .i64 0) 1 Tryd.underlying29 hi hz0 hz1 .i64 .i64 (l.length : Int) (l.length : Int) l.length rfl rfl rfl rfl (by rw [HZ2.out]; omega) (by unfold maxLen; omega) (by simp) ?_; intro w3 hD3 hg3; have HPS := Lib.hid (par_start (by simpa using hD3) hg3); have hbx := cell_only HPS.out.box)
      clear hD3 hg3 hbx k0 hkn
      go_loopw [5, 6, 7, 8, 9, 10, 33] (fun vo vd _ _ _ _ iv wr => ∃ (i : Nat) (up : List Int) (st : List (Nat × Nat)), i ≤ l.length ∧ iv = .int .i64 i ∧ ParW w (.slice (some ⟨g, off, none⟩) l.length cap) l.length i up st (.slice (some ⟨w.heap.size + 1, 0, none⟩) l.length l.length) vo vd wr ∧ RowKit.Hid (goT l i = some (up, st))) (fun _ _ _ _ _ _ iv _ => l.length - (RowKit.intOf iv).toNat)
      case atStart => exact ⟨0, [], [], Nat.zero_le _, rfl, HPS.out, rfl⟩
      case round =>
        clear HPS
        obtain ⟨i, up, st, hil, rfl, hP, HG⟩ := hrel
        rename World => w4
        by_cases hlt : i < l.length
        · have hlt' : (i : Int) < (l.length : Int) := by omega
          have hri := rightI_go HG.out
          have HRI := Lib.hid hri
          have hsl := goT_len HG.out
          have hb := cell_only hP.box
          obtain ⟨oG, oC, rfl, hoC⟩ := hP.vo_eq
          obtain ⟨dA, dC, rfl, hdC⟩ := hP.vd_eq
          obtain ⟨c0, c1, c2, c3, c4, c5, c6, c7, ⟨ka, kc, c8, -⟩, ⟨pa, pc, c9, -⟩⟩ := HND.out w4 hP.below i hlt
          have HX : RowKit.Hid (l[i]! = l[i]) := getElem!_pos l i hlt
          have hxok := HOK.out l[i] (List.getElem_mem hlt)
          have HTX := Lib.hid hxok.text
          clear hri hxok
          generalize l[i] = x at *
          have HFI := Lib.hid (fun X => fields_any x ka pa kc pc X HTX.out)
          have HP5 := Lib.hid (hP.later ((Below.refl _ w4).alloc (Nat.le_refl _) (.cells #[.int .i64 x.kind, .int .i64 x.fr, .int .i64 x.to, .int .i64 x.level, .string x.text, .string x.link, .string x.title, .bool x.tight, .slice ka x.kids.length kc, .slice pa x.pieces.length pc] 33)))
          have HN5 := Lib.hid (heap_alloc_new w4 (.cells #[.int .i64 x.kind, .int .i64 x.fr, .int .i64 x.to, .int .i64 x.level, .string x.text, .string x.link, .string x.title, .bool x.tight, .slice ka x.kids.length kc, .slice pa x.pieces.length pc] 33))
          have hz5 : w4.heap.size + 1 ≤ (w4.alloc (.cells #[.int .i64 x.kind, .int .i64 x.fr, .int .i64 x.to, .int .i64 x.level, .string x.text, .string x.link, .string x.title, .bool x.tight, .slice ka x.kids.length kc, .slice pa x.pieces.length pc] 33)).heap.size := by simp
          have hz4 : w.heap.size ≤ w4.heap.size := hP.below.size
          clear hP
          go_wp2_with fail
          generalize w4.alloc (.cells #[.int .i64 x.kind, .int .i64 x.fr, .int .i64 x.to, .int .i64 x.level, .string x.text, .string x.link, .string x.title, .bool x.tight, .slice ka x.kids.length kc, .slice pa x.pieces.length pc] 33) = w5 at *
          clear c0 c1 c2 c3 c4 c5 c6 c7 c8 c9 hb
          go_loopw [5, 6] (fun vo vd wr => ∃ (s : List (Nat × Nat)) (q : Nat), ParW w (.slice (some ⟨g, off, none⟩) l.length cap) l.length i up s (.slice (some ⟨w.heap.size + 1, 0, none⟩) l.length l.length) vo vd wr ∧ RowKit.Hid (popP l s = popP l st) ∧ s.length ≤ st.length ∧ RowKit.Hid (∀ y ∈ s, y ∈ st) ∧ wr = w5.drewN q) (fun _ vd _ => valLen vd)
          case atStart => exact ⟨st, 0, HP5.out, rfl, Nat.le_refl _, fun y hy => hy, rfl⟩
          case round =>
            clear HP5
            obtain ⟨s, q, hPs, HPOP, hss, HMEM, rfl⟩ := hrel
            have hb := cell_only hPs.box
            obtain ⟨oG, oC, rfl, hoC⟩ := hPs.vo_eq
            cases s with
            | nil =>
              obtain ⟨dA, dC, rfl, hdC⟩ := hPs.vd_eq
              have o0 : (w5.drewN q).cell? ⟨oG, 0, none⟩ = some (.int .i64 (-1)) := hPs.opCell (k := 0) (Nat.succ_pos _)
              obtain ⟨n0, n1, n2, n3, n4, n5, n6, n7, n8, n9⟩ := cells_ten (w := w5.drewN q) HN5.out
              have HPQ := Lib.hid hPs
              have HST : RowKit.Hid (stepP l i st = if i = 0 ∧ fieldsP x = true then some (-1, [(i, 0)]) else none) := by
                show _ = _
                rw [step_nil (by rw [← HPOP.out]; rfl), HX.out]
              have HUL : RowKit.Hid (up.length = i) := HRI.out.len
              clear hPs HMEM HRI
              generalize w5.drewN q = wq at *
              by_cases hi0 : i = 0
              · have hi1 : ¬ (0 : Int) < (i : Int) := by omega
                have HI0 := Lib.hid hi0
                clear hi0
                go_wp2_with fail
                go_quiet (fail)
                have Hq : ∀ (p : Addr) (v : Value), wq.cell? p = some v → (wq.drewN nq).cell? p = some v := fun _ _ h => h
                replace o0 := Hq _ _ o0; replace hb := Hq _ _ hb
                replace n0 := Hq _ _ n0; replace n1 := Hq _ _ n1; replace n2 := Hq _ _ n2; replace n3 := Hq _ _ n3; replace n4 := Hq _ _ n4; replace n5 := Hq _ _ n5; replace n6 := Hq _ _ n6; replace n7 := Hq _ _ n7; replace n8 := Hq _ _ n8; replace n9 := Hq _ _ n9
                have HPR := Lib.hid (HPQ.out.draws nq)
                clear HPQ Hq
                generalize wq.drewN nq = wr at *
                go_wp2_with fail
                refine (HFI.out wr).mono ?_
                rintro e w6 ⟨rfl, b6⟩
                cases hf : fieldsP x
                · have HN : RowKit.Hid (parentsP l = none) := parents_stop hlt HG.out (by rw [HST.out, if_neg (by rw [hf]; simp)])
                  have HB := Lib.hid (HPR.out.later b6).below
                  clear HPR b6 HST HG n0 n1 n2 n3 n4 n5 n6 n7 n8 n9 hb o0
                  go_wp2_with fail
                  go_ret2
                  exact ⟨.inl ⟨HN.out, rfl⟩, HB.out⟩
                · have HS : RowKit.Hid (goT l (i + 1) = some (up ++ [-1], [(i, 0)])) := goT_next HG.out (by rw [HST.out, if_pos ⟨HI0.out, hf⟩])
                  obtain ⟨hp7, ⟨uo, hu⟩, hfz⟩ := (HPR.out.later b6).setUp hlt HUL.out (-1)
                  have HP7 := Lib.hid hp7
                  clear HPR b6 HST HG n0 n1 n2 n3 n4 n5 n6 n7 n8 n9 hb o0 hp7
                  go_upto_region 20 with fail
                  generalize w6.setCell ⟨w.heap.size + 1, i, none⟩ (.int .i64 (-1)) = w7 at *
                  go_wp2_with (first
                    | (at_builtin; refine wpList_append_own_at _ rfl _ _ 29 rfl w.heap.size 3 i0 (.int .i64 0) 1 8 Tryd.underlying29 hi hz0 hz1 HZ2.out rfl (by decide) _ _ _ rfl (HO.out.due.alloc _) ⟨w8.heap.size, 0, none⟩ 1 1 [.int .i64 0] rfl rfl (new_one _ _ _) (by simp [Value.oneCell']) (by unfold maxLen; omega) (by omega) (by have := HO.out.below.size; simp; omega) ?_; intro v90 w9 hR9 hg9 _ hv9; obtain ⟨a9, c9, rfl, -⟩ := ownsRow_slice hR9; have HW := Lib.hid (HO.out.pushDue ((Below.refl _ w8).alloc (Nat.le_refl _) _) hR9 hg9 hv9))
                    | (at_builtin; refine wpList_append_own_at _ rfl _ _ 29 rfl w.heap.size 3 i0 (.int .i64 0) 1 8 Tryd.underlying29 hi hz0 hz1 HZ2.out rfl (by decide) _ _ _ rfl (HP7.out.op.alloc _) ⟨w7.heap.size, 0, none⟩ 1 1 [.int .i64 i] rfl rfl (new_one _ _ _) (by simp [Value.oneCell']) (by unfold maxLen; omega) (by omega) (by have := HP7.out.below.size; simp; omega) ?_; intro v80 w8 hR8 hg8 _ hv8; obtain ⟨a8, c8, rfl, -⟩ := ownsRow_slice hR8; have HO := Lib.hid (HP7.out.pushOpen ((Below.refl _ w7).alloc (Nat.le_refl _) _) i hR8 hg8 hv8)))
                  go_roundw
                  case rel => exact ⟨i + 1, up ++ [-1], [(i, 0)], by omega, by go_num, HW.out, HS.out⟩
                  case measure => simp [RowKit.intOf]; omega
              · have hi1 : (0 : Int) < (i : Int) := by omega
                have HN : RowKit.Hid (parentsP l = none) := parents_stop hlt HG.out (by rw [HST.out, if_neg (fun h => hi0 h.1)])
                have HB := Lib.hid HPQ.out.below
                clear HPQ HST HG hi0
                go_wp2_with fail
                go_quiet (fail)
                have Hq : ∀ (p : Addr) (v : Value), wq.cell? p = some v → (wq.drewN nq).cell? p = some v := fun _ _ h => h
                replace o0 := Hq _ _ o0
                clear Hq
                go_wp2_with fail
                go_ret2
                exact ⟨.inl ⟨HN.out, rfl⟩, below_drewN HB.out⟩
            | cons y r =>
              obtain ⟨p, d⟩ := y
              obtain ⟨dG, dC, rfl, hdC⟩ := hPs.vd_some (Nat.succ_pos _)
              obtain ⟨hpi, hdk⟩ := HRI.out.low (p, d) (HMEM.out _ (by simp))
              have hpi' : p < i := hpi
              have hpl : p < l.length := by omega
              have hpl' : (p : Int) < (l.length : Int) := by omega
              have HXP : RowKit.Hid (l[p]! = l[p]) := getElem!_pos l p hpl
              have dt := (hPs.dueCell (k := r.length) (by simp)).1
              have df := (hPs.dueCell (k := r.length) (by simp)).2
              rw [dueL_top] at dt
              have ot := hPs.opCell (k := r.length + 1) (by simp)
              rw [openL_top] at ot
              have HYOK := Lib.hid (HOK.out l[p] (List.getElem_mem hpl))
              have hdk' : d ≤ l[p].kids.length := by rw [← HXP.out]; exact hdk
              obtain ⟨h00, h01, h02, h03, h04, h05, h06, h07, ⟨ya, yc, h08, yK⟩, ⟨yp, yq, h09, -⟩⟩ := HND.out w (Below.refl _ _) p hpl
              have HNA : RowKit.Hid (∀ X, Below w.heap.size w X → X.cell? ⟨g, off + p * 10, none⟩ = some (.int .i64 l[p].kind) ∧ X.cell? ⟨g, off + p * 10 + 1, none⟩ = some (.int .i64 l[p].fr) ∧ X.cell? ⟨g, off + p * 10 + 2, none⟩ = some (.int .i64 l[p].to) ∧ X.cell? ⟨g, off + p * 10 + 3, none⟩ = some (.int .i64 l[p].level) ∧ X.cell? ⟨g, off + p * 10 + 4, none⟩ = some (.string l[p].text) ∧ X.cell? ⟨g, off + p * 10 + 5, none⟩ = some (.string l[p].link) ∧ X.cell? ⟨g, off + p * 10 + 6, none⟩ = some (.string l[p].title) ∧ X.cell? ⟨g, off + p * 10 + 7, none⟩ = some (.bool l[p].tight) ∧ X.cell? ⟨g, off + p * 10 + 8, none⟩ = some (.slice ya l[p].kids.length yc) ∧ X.cell? ⟨g, off + p * 10 + 9, none⟩ = some (.slice yp l[p].pieces.length yq)) := fun X h =>
                ⟨(h.cell (p := ⟨g, _, none⟩) hgl).trans h00, (h.cell (p := ⟨g, _, none⟩) hgl).trans h01, (h.cell (p := ⟨g, _, none⟩) hgl).trans h02, (h.cell (p := ⟨g, _, none⟩) hgl).trans h03, (h.cell (p := ⟨g, _, none⟩) hgl).trans h04, (h.cell (p := ⟨g, _, none⟩) hgl).trans h05, (h.cell (p := ⟨g, _, none⟩) hgl).trans h06, (h.cell (p := ⟨g, _, none⟩) hgl).trans h07, (h.cell (p := ⟨g, _, none⟩) hgl).trans h08, (h.cell (p := ⟨g, _, none⟩) hgl).trans h09⟩
              have HYI : RowKit.Hid (∀ X, Below w.heap.size w X → IntsIn w.heap.size X (.slice ya l[p].kids.length yc) l[p].kids) := fun X h => yK.below h
              obtain ⟨y0, y1, y2, y3, y4, y5, y6, y7, y8, y9⟩ := HNA.out _ hPs.below
              clear h00 h01 h02 h03 h04 h05 h06 h07 h08 h09
              have HPQ := Lib.hid hPs
              have hrl : r.length + 1 ≤ st.length := hss
              clear hPs hpi hdk yK hpi'
              have hpi2 : p < i := by have := HRI.out.low (p, d) (HMEM.out _ (by simp)); exact this.1
              have HMEM2 : RowKit.Hid (∀ y ∈ r, y ∈ st) := fun y hy => HMEM.out y (List.mem_cons_of_mem _ hy)
              generalize l[p] = y at *
              have hw1 : IntKind.i64.wrap ((r.length : Int) + 1 - 1) = (r.length : Int) := by rw [IntWalk.i64_in _ (by omega)]; omega
              have hw2 : IntKind.i64.wrap ((r.length : Int) + 1 + 1 - 1) = (r.length : Int) + 1 := by rw [IntWalk.i64_in _ (by omega)]; omega
              have hw3 : ((r.length : Int) + 1).toNat = r.length + 1 := by omega
              have hw4 : (0 : Int) ≤ (r.length : Int) + 1 := by omega
              have hoC' : (r.length : Int) + 1 ≤ (oC : Int) := by simp at hoC; omega
              have hdC' : (r.length : Int) ≤ (dC : Int) := by simp at hdC; omega
              have HW5 := Lib.hid HN5.out
              generalize hwq : w5.drewN q = wq at *
              have HWQ := Lib.hid hwq
              clear hwq
              by_cases hd : d = y.kids.length
              · have hde : ((d : Int) == (y.kids.length : Int)) = true := by rw [hd]; exact beq_self_eq_true _
                have HD := Lib.hid hd
                clear hd
                go_wp2_with fail
                go_quiet (fail)
                go_wp2_with fail
                go_quiet (fail)
                go_wp2_with fail
                go_roundw
                case rel => exact ⟨r, _, (HPQ.out.pop.draws _).draws _, (by show _ = _; rw [← HPOP.out, pop_done (by rw [HXP.out]; exact HD.out)]), by omega, HMEM2, three_draws HWQ.out⟩
                case measure => show r.length < (r.length + 1); omega
              · have hde : ((d : Int) == (y.kids.length : Int)) = false := by rw [beq_eq_false_iff_ne]; omega
                have hdl : d < y.kids.length := by omega
                have HST : RowKit.Hid (stepP l i st = if fieldsP x = true ∧ y.kids[d]! = (i : Int) ∧ holdsP y.kind x.kind = true ∧ y.fr ≤ x.fr ∧ x.to ≤ y.to then some ((p : Int), (i, 0) :: (p, d + 1) :: r) else none) := by
                  show _ = _
                  rw [step_cons (p := p) (d := d) (r := r) (by rw [← HPOP.out, pop_stay (by rw [HXP.out]; exact hd)]), HX.out, HXP.out]
                have HUL : RowKit.Hid (up.length = i) := HRI.out.len
                clear hd HMEM HMEM2 HRI HPOP
                have hi1 : (0 : Int) < (i : Int) := by omega
                have hp0 : ¬ (p : Int) < 0 := by omega
                obtain ⟨n0, n1, n2, n3, n4, n5, n6, n7, n8, n9⟩ := cells_ten (w := wq) (by rw [← HWQ.out]; exact HN5.out)
                have HNQ : RowKit.Hid (wq.heap[w4.heap.size]? = some (.cells #[.int .i64 x.kind, .int .i64 x.fr, .int .i64 x.to, .int .i64 x.level, .string x.text, .string x.link, .string x.title, .bool x.tight, .slice ka x.kids.length kc, .slice pa x.pieces.length pc] 33)) := by show _ = _; rw [← HWQ.out]; exact HN5.out
                clear HN5 HW5 HWQ
                go_wp2_with fail
                go_quiet (fail)
                have Hq : ∀ (p : Addr) (v : Value), wq.cell? p = some v → (wq.drewN nq).cell? p = some v := fun _ _ h => h
                replace ot := Hq _ _ ot; replace hb := Hq _ _ hb
                replace n0 := Hq _ _ n0; replace n1 := Hq _ _ n1; replace n2 := Hq _ _ n2; replace n3 := Hq _ _ n3; replace n4 := Hq _ _ n4; replace n5 := Hq _ _ n5; replace n6 := Hq _ _ n6; replace n7 := Hq _ _ n7; replace n8 := Hq _ _ n8; replace n9 := Hq _ _ n9
                have HPR := Lib.hid (HPQ.out.draws nq)
                have HNR : RowKit.Hid ((wq.drewN nq).heap[w4.heap.size]? = some (.cells #[.int .i64 x.kind, .int .i64 x.fr, .int .i64 x.to, .int .i64 x.level, .string x.text, .string x.link, .string x.title, .bool x.tight, .slice ka x.kids.length kc, .slice pa x.pieces.length pc] 33)) := HNQ.out
                clear HPQ Hq HNQ dt df y0 y1 y2 y3 y4 y5 y6 y7 y8 y9
                generalize wq.drewN nq = wr at *
                go_wp2_with fail
                refine (HFI.out wr).mono ?_
                rintro e w6 ⟨rfl, b6⟩
                have HP6 := Lib.hid (HPR.out.later b6)
                have HN6 : RowKit.Hid (w6.heap[w4.heap.size]? = some (.cells #[.int .i64 x.kind, .int .i64 x.fr, .int .i64 x.to, .int .i64 x.level, .string x.text, .string x.link, .string x.title, .bool x.tight, .slice ka x.kids.length kc, .slice pa x.pieces.length pc] 33)) := (b6.block _ (Array.getElem?_eq_some_iff.1 HNR.out).1).trans HNR.out
                clear HPR HNR b6 n0 n1 n2 n3 n4 n5 n6 n7 n8 n9 hb ot
                cases hf : fieldsP x
                · have HN : RowKit.Hid (parentsP l = none) := parents_stop hlt HG.out (by rw [HST.out, if_neg (fun h => by rw [hf] at h; simp at h)])
                  have HB := Lib.hid HP6.out.below
                  clear HP6 HN6 HST HG
                  go_wp2_with fail
                  go_ret2
                  exact ⟨.inl ⟨HN.out, rfl⟩, HB.out⟩
                · have hb := cell_only HP6.out.box
                  obtain ⟨y0, y1, y2, y3, y4, y5, y6, y7, y8, y9⟩ := HNA.out w6 HP6.out.below
                  have hA7 : Below w6.heap.size w6 (w6.alloc (.cells #[.int .i64 y.kind, .int .i64 y.fr, .int .i64 y.to, .int .i64 y.level, .string y.text, .string y.link, .string y.title, .bool y.tight, .slice ya y.kids.length yc, .slice yp y.pieces.length yq] 33)) := (Below.refl _ w6).alloc (Nat.le_refl _) _
                  have HP7 := Lib.hid (HP6.out.later hA7)
                  have HN7 : RowKit.Hid ((w6.alloc (.cells #[.int .i64 y.kind, .int .i64 y.fr, .int .i64 y.to, .int .i64 y.level, .string y.text, .string y.link, .string y.title, .bool y.tight, .slice ya y.kids.length yc, .slice yp y.pieces.length yq] 33)).heap[w4.heap.size]? = some (.cells #[.int .i64 x.kind, .int .i64 x.fr, .int .i64 x.to, .int .i64 x.level, .string x.text, .string x.link, .string x.title, .bool x.tight, .slice ka x.kids.length kc, .slice pa x.pieces.length pc] 33)) := (hA7.block _ (Array.getElem?_eq_some_iff.1 HN6.out).1).trans HN6.out
                  have HQ7 := Lib.hid (heap_alloc_new w6 (.cells #[.int .i64 y.kind, .int .i64 y.fr, .int .i64 y.to, .int .i64 y.level, .string y.text, .string y.link, .string y.title, .bool y.tight, .slice ya y.kids.length yc, .slice yp y.pieces.length yq] 33))
                  have HB6 := Lib.hid HP6.out.below
                  clear HP6 HN6 hA7
                  go_wp2_with fail
                  generalize w6.alloc (.cells #[.int .i64 y.kind, .int .i64 y.fr, .int .i64 y.to, .int .i64 y.level, .string y.text, .string y.link, .string y.title, .bool y.tight, .slice ya y.kids.length yc, .slice yp y.pieces.length yq] 33) = w7 at *
                  clear y0 y1 y2 y3 y4 y5 y6 y7 y8 y9 hb
                  obtain ⟨gy, oy, rfl, -, -, hyc⟩ := (HYI.out w7 HP7.out.below).at hdl
                  have kcell := hyc d hdl
                  have HKD : RowKit.Hid (y.kids[d]! = y.kids[d]) := getElem!_pos y.kids d hdl
                  obtain ⟨x0, x1, x2, -, -, -, -, -, -, -⟩ := cells_ten HN7.out
                  obtain ⟨q0, q1, q2, -, -, -, -, -, q8, -⟩ := cells_ten HQ7.out
                  have dt := (HP7.out.dueCell (k := r.length) (by simp)).1
                  rw [dueL_top] at dt
                  have hdB : (d : Int) ≤ 17592186044416 := by have := HYOK.out.kids; omega
                  have hdn : (0 : Int) ≤ (d : Int) := by omega
                  have hdl' : (d : Int) < (y.kids.length : Int) := by omega
                  generalize y.kids[d] = kd at *
                  clear hyc
                  by_cases e1 : kd = (i : Int)
                  · have e1b : (kd != (i : Int)) = false := by rw [e1]; simp
                    have E1 := Lib.hid e1
                    clear e1
                    have hho := fun X => holds_any y.kind x.kind X
                    cases hh : holdsP y.kind x.kind
                    all_goals rw [hh] at hho
                    all_goals have HHO := Lib.hid hho
                    all_goals clear hho
                    · have HN : RowKit.Hid (parentsP l = none) := parents_stop hlt HG.out (by rw [HST.out, if_neg (fun h => by rw [hh] at h; simp at h)])
                      have HB := Lib.hid HP7.out.below
                      clear HN7 HQ7 HST HG HP7 HNA HYI HND HOK HI
                      go_wp2_with fail
                      go_quiet ((go_at_call 54; refine Calls.quiet_of_same (HHO.out _)))
                      go_wp2_with fail
                      go_ret2
                      exact ⟨.inl ⟨HN.out, rfl⟩, below_drewN HB.out⟩
                    · by_cases e2 : x.fr < y.fr
                      · have e2b : decide (x.fr < y.fr) = true := decide_eq_true e2
                        have HN : RowKit.Hid (parentsP l = none) := parents_stop hlt HG.out (by rw [HST.out, if_neg (fun h => by have := h.2.2.2.1; omega)])
                        have HB := Lib.hid HP7.out.below
                        clear HN7 HQ7 HST HG HP7 HNA HYI HND HOK HI
                        go_wp2_with fail
                        go_quiet ((go_at_call 54; refine Calls.quiet_of_same (HHO.out _)))
                        go_wp2_with fail
                        go_ret2
                        exact ⟨.inl ⟨HN.out, rfl⟩, below_drewN HB.out⟩
                        
                      · have e2b : decide (x.fr < y.fr) = false := decide_eq_false e2
                        by_cases e3 : y.to < x.to
                        · have e3b : decide (y.to < x.to) = true := decide_eq_true e3
                          have HN : RowKit.Hid (parentsP l = none) := parents_stop hlt HG.out (by rw [HST.out, if_neg (fun h => by have := h.2.2.2.2; omega)])
                          have HB := Lib.hid HP7.out.below
                          clear HN7 HQ7 HST HG HP7 HNA HYI HND HOK HI
                          go_wp2_with fail
                          go_quiet ((go_at_call 54; refine Calls.quiet_of_same (HHO.out _)))
                          go_wp2_with fail
                          go_ret2
                          exact ⟨.inl ⟨HN.out, rfl⟩, below_drewN HB.out⟩
                          
                        · have e3b : decide (y.to < x.to) = false := decide_eq_false e3
                          have HS : RowKit.Hid (goT l (i + 1) = some (up ++ [(p : Int)], (i, 0) :: (p, d + 1) :: r)) := goT_next HG.out (by rw [HST.out, if_pos ⟨hf, HKD.out.trans E1.out, hh, by omega, by omega⟩])
                          clear HN7 HST HG HNA HYI HND HOK HI
                          go_wp2_with fail
                          go_quiet ((go_at_call 54; refine Calls.quiet_of_same (HHO.out _)))
                          have HP8 := Lib.hid (HP7.out.draws nq)
                          clear HP7 HQ7 x0 x1 x2 q0 q1 q2 q8 dt kcell
                          generalize w7.drewN nq = w8 at *
                          obtain ⟨dt, df⟩ := HP8.out.dueCell (k := r.length) (by simp)
                          rw [dueL_top] at dt
                          go_upto_region 19 with fail
                          have HP9 := Lib.hid HP8.out.bump
                          clear HP8 dt df
                          generalize w8.setCell ⟨dG, r.length, none⟩ (.int .i64 ((d : Int) + 1)) = w9 at *
                          obtain ⟨hp10, ⟨uo, hu⟩, hfz⟩ := HP9.out.setUp hlt HUL.out (p : Int)
                          have HPX := Lib.hid hp10
                          clear hp10 HP9
                          have hlc : ((p, d + 1) :: r).length ≤ 100000 := by simp; omega
                          go_upto_region 20 with fail
                          generalize w9.setCell ⟨w.heap.size + 1, i, none⟩ (.int .i64 (p : Int)) = wx at *
                          clear hu hfz
                          go_wp2_with (first
                        | (at_builtin; refine wpList_append_own_at _ rfl _ _ 29 rfl w.heap.size 3 i0 (.int .i64 0) 1 8 Tryd.underlying29 hi hz0 hz1 HZ2.out rfl (by decide) _ _ _ rfl (HO.out.due.alloc _) ⟨wy.heap.size, 0, none⟩ 1 1 [.int .i64 0] rfl rfl (new_one _ _ _) (by simp [Value.oneCell']) (by unfold maxLen; omega) (by omega) (by have := HO.out.below.size; simp; omega) ?_; intro v90 wz hR9 hg9 _ hv9; obtain ⟨a9, c9, rfl, -⟩ := ownsRow_slice hR9; have HW := Lib.hid (HO.out.pushDue ((Below.refl _ wy).alloc (Nat.le_refl _) _) hR9 hg9 hv9))
                        | (at_builtin; refine wpList_append_own_at _ rfl _ _ 29 rfl w.heap.size 3 i0 (.int .i64 0) 1 8 Tryd.underlying29 hi hz0 hz1 HZ2.out rfl (by decide) _ _ _ rfl (HPX.out.op.alloc _) ⟨wx.heap.size, 0, none⟩ 1 1 [.int .i64 i] rfl rfl (new_one _ _ _) (by simp [Value.oneCell']) (by unfold maxLen; omega) (by omega) (by have := HPX.out.below.size; simp; omega) ?_; intro v80 wy hR8 hg8 _ hv8; obtain ⟨a8, c8, rfl, -⟩ := ownsRow_slice hR8; have HO := Lib.hid (HPX.out.pushOpen ((Below.refl _ wx).alloc (Nat.le_refl _) _) i hR8 hg8 hv8)))
                          go_roundw
                          case rel => exact ⟨i + 1, up ++ [(p : Int)], (i, 0) :: (p, d + 1) :: r, by omega, by go_num, HW.out, HS.out⟩
                          case measure => simp [RowKit.intOf]; omega
                  · have e1b : (kd != (i : Int)) = true := by rw [bne_iff_ne]; exact e1
                    have HN : RowKit.Hid (parentsP l = none) := parents_stop hlt HG.out (by rw [HST.out, if_neg (fun h => e1 (HKD.out.symm.trans h.2.1))])
                    have HB := Lib.hid HP7.out.below
                    clear HN7 HQ7 HST HG HP7 HNA HYI HND HOK HI
                    go_wp2_with fail
                    go_quiet (fail)
                    go_wp2_with fail
                    go_ret2
                    exact ⟨.inl ⟨HN.out, rfl⟩, below_drewN HB.out⟩

        · obtain rfl : i = l.length := by omega
          have HRI := Lib.hid (rightI_go HG.out)
          have hsl := goT_len HG.out
          have hb := cell_only hP.box
          obtain ⟨oG, oC, rfl, hoC⟩ := hP.vo_eq
          obtain ⟨dA, dC, rfl, hdC⟩ := hP.vd_eq
          have HP := Lib.hid hP
          have HPE := Lib.hid (parents_end h0p HL0.out HG.out)
          have HUL : RowKit.Hid (up.length = l.length) := HRI.out.len
          clear hP HG
          go_wp2_with fail
          go_loopw [11, 12, 152] (fun _ _ iv wr => ∃ (k q : Nat), k ≤ st.length ∧ iv = .int .i64 k ∧ RowKit.Hid (∀ j (h : j < st.reverse.length), j < k → (st.reverse[j]).2 = l[(st.reverse[j]).1]!.kids.length) ∧ wr = w4.drewN q) (fun _ _ iv _ => st.length - (RowKit.intOf iv).toNat)
          case atStart => exact ⟨0, 0, Nat.zero_le _, rfl, (fun j h1 h2 => by omega), rfl⟩
          case round =>
            obtain ⟨k, q, hk, rfl, HDN, rfl⟩ := hrel
            by_cases hkl : k < st.length
            · have hkl' : (k : Int) < (st.length : Int) := by omega
              have hkr : k < st.reverse.length := by simpa using hkl
              obtain ⟨dG, dC2, e5, -⟩ := HP.out.vd_some (by omega)
              injection e5 with e5 _ e6
              subst e5 e6
              obtain ⟨q1, q2⟩ := openL_at st k hkl
              have dt := (HP.out.draws q).dueCell (k := k) hkl |>.1
              have ot := (HP.out.draws q).opCell (k := k + 1) (by omega)
              rw [q2] at dt
              rw [q1] at ot
              have hmem : st.reverse[k] ∈ st := List.mem_reverse.1 (List.getElem_mem hkr)
              obtain ⟨hpi, hdk⟩ := HRI.out.low _ hmem
              have HNX : RowKit.Hid ((st.reverse[k]).2 = l[(st.reverse[k]).1]!.kids.length → ∀ j (h : j < st.reverse.length), j < k + 1 → (st.reverse[j]).2 = l[(st.reverse[j]).1]!.kids.length) := fun h j hj hjk => by
                rcases Nat.lt_or_ge j k with h1 | h1
                · exact HDN.out j hj h1
                · obtain rfl : j = k := by omega
                  exact h
              have HNO : RowKit.Hid ((st.reverse[k]).2 ≠ l[(st.reverse[k]).1]!.kids.length → parentsP l = none) := fun h => by
                rw [HPE.out, done_not hkr h]; rfl
              generalize st.reverse[k] = pd at *
              obtain ⟨p, d⟩ := pd
              dsimp only at dt ot hpi hdk
              have hpl' : (p : Int) < (l.length : Int) := by omega
              have hp0 : (0 : Int) ≤ (p : Int) := by omega
              have HXP : RowKit.Hid (l[p]! = l[p]) := getElem!_pos l p hpi
              obtain ⟨-, -, -, -, -, -, -, -, ⟨ya, yc, y8, -⟩, -⟩ := HND.out _ (HP.out.draws q).below p hpi
              dsimp only at HNX HNO
              rw [HXP.out] at HNX HNO hdk
              have hb2 : (w4.drewN q).cell? ⟨w.heap.size, 0, none⟩ = some (.slice (some ⟨g, off, none⟩) l.length cap) := hb
              have hw1 : IntKind.i64.wrap ((k : Int) + 1) = (k : Int) + 1 := IntWalk.i64_in _ (by omega)
              have hw2 : ((k : Int) + 1).toNat = k + 1 := by omega
              have hw3 : (0 : Int) ≤ (k : Int) + 1 := by omega
              generalize l[p] = y at *
              have HBL := Lib.hid (HP.out.draws q).below
              clear hb q1 q2 hmem HND HRI HOK HI
              generalize hwq : w4.drewN q = wq at *
              have HWQ := Lib.hid hwq
              clear hwq
              by_cases hd : d = y.kids.length
              · have hde : ((d : Int) != (y.kids.length : Int)) = false := by rw [hd]; simp
                have HN1 := Lib.hid (HNX.out hd)
                clear HNX HNO hd
                go_wp2_with fail
                go_quiet (fail)
                go_wp2_with fail
                go_roundw
                case rel => exact ⟨k + 1, _, by omega, by go_num, HN1.out, two_draws HWQ.out⟩
                case measure => simp [RowKit.intOf]; omega
              · have hde : ((d : Int) != (y.kids.length : Int)) = true := by rw [bne_iff_ne]; omega
                have HN1 := Lib.hid (HNO.out hd)
                clear HNX HNO hd
                go_wp2_with fail
                go_quiet (fail)
                go_wp2_with fail
                go_ret2
                exact ⟨.inl ⟨HN1.out, rfl⟩, below_drewN HBL.out⟩
            · obtain rfl : k = st.length := by omega
              have HSM : RowKit.Hid (parentsP l = some up) := by
                show _ = _
                rw [HPE.out, if_pos (done_all fun j hj => HDN.out j hj (by simpa using hj))]
              have hkl' : ¬ (st.length : Int) < (st.length : Int) := by omega
              go_wp2_with fail
              go_ret2
              refine ⟨.inr ⟨up, _, HSM.out, rfl, ?_⟩, (HP.out.draws q).below⟩
              have := (HP.out.draws q).ups
              rw [Nat.sub_self, List.replicate_zero, List.append_nil] at this
              rw [HUL.out]
              exact this
    · have HP : RowKit.Hid (parentsP l = none) := by
        show _ = _
        unfold parentsP
        rw [if_neg (by rw [HK0.out]; exact fun h => hk h.2)]
      have hk1 : (l[0].kind != 1) = true := by simpa [bne_iff_ne] using hk
      clear hcs HND h0 hk
      generalize l[0].kind = k0v at *
      go_enter Tryd.func35, Tryd.ntmps35
      go_wp2_with fail
      go_ret2
      exact ⟨.inl ⟨HP.out, rfl⟩, (Below.refl _ w).alloc (Nat.le_refl _) _⟩
end Go.Proofs.YtlebikmiophghaaDoor
