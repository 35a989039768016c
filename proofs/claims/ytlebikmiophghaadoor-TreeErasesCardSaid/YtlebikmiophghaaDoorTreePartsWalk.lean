/-
  The walk of TreeParts: it returns true whatever it is handed. Conditions: the form's own bounds; the table of powers of ten.
-/
import Derived.Test.YtlebikmiophghaaDoorTreeWeigh
set_option linter.unusedSimpArgs false
set_option linter.unusedVariables false
namespace Go.Proofs.YtlebikmiophghaaDoor
open Go.Shelf Go.RowKit Go.Lib

/-- CopyTree, as a tree. -/
theorem copyTree_any (a : Option Addr) (cap : Nat) (l : List NodeP) (hl : l.length ≤ 4000) (hk : ∀ x ∈ l, x.kids.length ≤ 4000 ∧ x.pieces.length ≤ 4000 ∧ x.text.size ≤ 4000 ∧ x.link.size ≤ 4000 ∧ x.title.size ≤ 4000) (w : World) (hI : NodesIn w.heap.size w (.slice a l.length cap) l) :
    Calls Tryd.prog 15 #[.agg #[.slice a l.length cap]] w fun e w' => (∃ a' c', e = .returned (.agg #[.slice a' l.length c']) ∧ NodesIn w'.heap.size w' (.slice a' l.length c') l) ∧ Below w.heap.size w w' := by
  refine (copyTree_own a cap l (by omega) (fun x hx => by have := hk x hx; omega) w hI).mono ?_
  rintro e w' ⟨⟨v, rs, rfl, hT, hM⟩, b⟩
  have hn := hT.nodes
  rw [hM] at hn
  obtain ⟨a', c', rfl, -⟩ := id hn
  exact ⟨⟨a', c', rfl, hn⟩, b⟩

namespace treeParts
set_option maxHeartbeats 16000000 in
set_option maxRecDepth 100000 in
theorem walk (a : Option Addr) (l : List NodeP) (cap : Nat) (hl : l.length * 136 ≤ reachBytes) (hok : ∀ x ∈ l, NodeOk x) (w : World) (hT : PowT w) (hI : NodesIn w.heap.size w (.slice a l.length cap) l) :
    Calls Tryd.prog 3 #[.agg #[.slice a l.length cap]] w fun e w' => e = .returned (.bool true) ∧ Below w.heap.size w w' := by
  have hl2 : l.length ≤ 4611686018427387904 := by unfold reachBytes at hl; omega
  have mixed : Tryd.prog.follows Departure.mixedOrders = true := rfl
  have HI := Lib.hid hI
  have HT := Lib.hid hT
  have HOK := Lib.hid hok
  have hB0 : Below w.heap.size w (w.alloc (.cells #[.slice a l.length cap] 24)) := (Below.refl _ w).alloc (Nat.le_refl _) _
  have HBX := Lib.hid (heap_alloc_new w (.cells #[.slice a l.length cap] 24))
  have HZ0 : RowKit.Hid ((w.alloc (.cells #[.slice a l.length cap] 24)).heap.size = w.heap.size + 1) := by show _ = _; simp
  have HBC : RowKit.Hid (∀ X, Below (w.alloc (.cells #[.slice a l.length cap] 24)).heap.size (w.alloc (.cells #[.slice a l.length cap] 24)) X → X.cell? ⟨w.heap.size, 0, none⟩ = some (.slice a l.length cap) ∧ Below w.heap.size w X) := fun X h =>
    ⟨cell_only ((h.block _ (by rw [HZ0.out]; exact Nat.lt_succ_self _)).trans HBX.out), hB0.trans (h.mono (by rw [HZ0.out]; omega))⟩
  have hA0 := treeAlive_any _ (HT.out.below hB0)
  have HWG := Lib.hid (fun (X : World) h => weigh_any a cap l 4000 (by omega) (by omega) hl2 hok X h)
  clear hI hT hok hB0 hl hl2
  generalize hw0 : w.alloc (.cells #[.slice a l.length cap] 24) = w0 at *
  go_enter Tryd.func3, Tryd.ntmps3
  go_wp2_with fail
  refine hA0.mono ?_
  rintro e w1 ⟨rfl, b1⟩
  clear hA0 hw0
  obtain ⟨q1, e1⟩ := HBC.out w1 b1
  go_wp2_with fail
  refine (HWG.out w1 (HI.out.later e1)).mono ?_
  rintro e w2 ⟨rfl, b2⟩
  have b02 := b1.trans (b2.mono b1.size)
  obtain ⟨q2, e2⟩ := HBC.out w2 b02
  clear q1 e1 b1 b2
  by_cases hwg : weighAt 4000 l 0 ≤ 4000
  · obtain ⟨s1, s2, s3⟩ := weigh_small (by omega) HOK.out hwg
    have hwb : ¬ (4000 : Int) < weighAt 4000 l 0 := by omega
    have HCP := Lib.hid (fun (a' : Option Addr) (c' : Nat) (X : World) h => copyTree_any a' c' l s1 s3 X h)
    have HRT := Lib.hid (fun (a' : Option Addr) (c' : Nat) (X : World) h => right_any a' c' l (by omega) HOK.out X h)
    clear s2 s3 hwg HWG
    generalize weighAt 4000 l 0 = wg at *
    go_wp2_with fail
    refine (HCP.out a cap w2 (HI.out.later e2)).mono ?_
    rintro e w3 ⟨⟨a3, c3, rfl, hn3⟩, b3⟩
    have b03 := b02.trans (b3.mono b02.size)
    obtain ⟨q3, e3⟩ := HBC.out w3 b03
    clear q2 b02 b3
    go_wp2_with fail
    refine (HRT.out a3 c3 w3 hn3).mono ?_
    rintro e w4 ⟨rfl, b4⟩
    have b04 := b03.trans (b4.mono b03.size)
    obtain ⟨q4, e4⟩ := HBC.out w4 b04
    clear q3 e3 b03 b4 hn3
    have HWB := Lib.hid hwb
    cases hp : parentsP l with
    | none =>
      rw [Option.isSome_none]
      go_wp2_with fail
      go_ret
      exact ⟨rfl, e4⟩
    | some up =>
      rw [Option.isSome_some]
      have hrt := parents_right hp
      have HLW := Lib.hid (parts_law hrt)
      have hul := hrt.len
      have hpos := hrt.pos
      have hup0 := HLW.out.1
      have HPA := Lib.hid (fun (a' : Option Addr) (c' : Nat) (X : World) h => treeParents_any a' c' l up hp (by omega) HOK.out X h)
      have HUL := Lib.hid hul
      clear hrt hul
      go_wp2_with fail
      refine (HCP.out a cap w4 (HI.out.later e4)).mono ?_
      rintro e w5 ⟨⟨a5, c5, rfl, hn5⟩, b5⟩
      have b05 := b04.trans (b5.mono b04.size)
      clear q4 b04 b5
      go_wp2_with fail
      refine (HPA.out a5 c5 w5 hn5).mono ?_
      rintro e w6 ⟨⟨a6, c6, rfl, hi6⟩, b6⟩
      have b06 := b05.trans (b6.mono b05.size)
      obtain ⟨q6, e6⟩ := HBC.out w6 b06
      have HE6 := Lib.hid e6
      have HI6 := Lib.hid hi6
      obtain ⟨gu, ou, rfl, -, -, huc⟩ := hi6.at (show 0 < up.length by rw [HUL.out]; exact hpos)
      have hu0 := huc 0 (by rw [HUL.out]; exact hpos)
      rw [← getElem!_pos up 0 (by rw [HUL.out]; exact hpos), hup0, Nat.add_zero] at hu0
      have HUC : RowKit.Hid (∀ j, j < l.length → w6.cell? ⟨gu, ou + j, none⟩ = some (.int .i64 up[j]!)) := fun j hj => by
        have hj' : j < up.length := by rw [HUL.out]; exact hj
        rw [getElem!_pos up j hj']; exact huc j hj'
      obtain ⟨gn, on', rfl, -, -, hnc⟩ := (HI.out.below e6).at hpos
      have HNC := Lib.hid hnc
      clear b05 b06 hn5 huc hi6 hup0 e6 e4 e2 HCP HRT hnc
      rw [HUL.out]
      have hlpos : (0 : Int) < (l.length : Int) := by omega
      go_wp2_with fail
      go_loopw [4, 5, 6] (fun iv _ _ wr => ∃ i q : Nat, 1 ≤ i ∧ i ≤ l.length ∧ iv = .int .i64 i ∧ wr = w6.drewN q) (fun iv _ _ _ => l.length - (RowKit.intOf iv).toNat)
      case atStart => exact ⟨1, 0, Nat.le_refl _, hpos, rfl, rfl⟩
      case round =>
        obtain ⟨i, q, hi1, hil, rfl, rfl⟩ := hrel
        by_cases hlt : i < l.length
        · have hlt' : (i : Int) < (l.length : Int) := by omega
          obtain ⟨p, hp1, hp2, hp3, hp4, hp5⟩ := HLW.out.2 i (by omega) hlt
          have hpl : p < l.length := by omega
          have hpl' : (p : Int) < (l.length : Int) := by omega
          have hpi' : (p : Int) < (i : Int) := by omega
          have hui := HUC.out i hlt
          rw [hp1] at hui
          have hni := HNC.out i hlt
          have hnp := HNC.out p hpl
          obtain ⟨-, i1, i2, -, -, -, -, -, -, -⟩ := hni
          obtain ⟨-, p1, p2, -, -, -, -, -, ⟨pa, pc, p8, pK⟩, -⟩ := hnp
          rw [getElem!_pos l p hpl, getElem!_pos l i hlt] at hp3 hp4
          rw [getElem!_pos l p hpl] at hp5
          have HKB : RowKit.Hid (l[p].kids.length * 8 ≤ 140737488355328) := (HOK.out l[p] (List.getElem_mem hpl)).kids
          generalize l[i] = x at *
          generalize l[p] = y at *
          have hd1 : decide (x.fr < y.fr) = false := decide_eq_false (by omega)
          have hd2 : decide (y.to < x.to) = false := decide_eq_false (by omega)
          have hd3 : ¬ (p : Int) < 0 := by omega
          have hd4 : ¬ (i : Int) ≤ (p : Int) := by omega
          have hq6 : (w6.drewN q).cell? ⟨w.heap.size, 0, none⟩ = some (.slice (some ⟨gn, on', none⟩) l.length cap) := q6
          have hui' : (w6.drewN q).cell? ⟨gu, ou + i, none⟩ = some (.int .i64 p) := hui
          have i1' : (w6.drewN q).cell? ⟨gn, on' + i * 10 + 1, none⟩ = some (.int .i64 x.fr) := i1
          have i2' : (w6.drewN q).cell? ⟨gn, on' + i * 10 + 2, none⟩ = some (.int .i64 x.to) := i2
          have p1' : (w6.drewN q).cell? ⟨gn, on' + p * 10 + 1, none⟩ = some (.int .i64 y.fr) := p1
          have p2' : (w6.drewN q).cell? ⟨gn, on' + p * 10 + 2, none⟩ = some (.int .i64 y.to) := p2
          have P8 := Lib.hid p8
          have PK := Lib.hid pK
          have HP5 := Lib.hid hp5
          have HP1 := Lib.hid hp1
          clear hp1 hp3 hp4 hp5 hui i1 i2 p1 p2 p8 pK
          generalize hwx : w6.drewN q = wx at *
          have HWX := Lib.hid hwx
          clear hwx
          clear hwb
          go_wp2_with fail
          go_quiet (fail)
          go_wp2_with fail
          clear hd1 hd2 i1' i2' p1' p2' hq6 hui'
          go_loopw [5, 6] (fun fv kv wr => ∃ (k q' : Nat), k ≤ y.kids.length ∧ kv = .int .i64 k ∧ fv = .int .i64 (((y.kids.take k).count (i : Int) : Nat) : Int) ∧ wr = w6.drewN q') (fun _ kv _ => y.kids.length - (RowKit.intOf kv).toNat)
          case atStart => exact ⟨0, _, Nat.zero_le _, rfl, rfl, two_draws HWX.out⟩
          case round =>
            obtain ⟨k, q', hk, rfl, rfl, rfl⟩ := hrel
            have hcl : (y.kids.take k).count (i : Int) ≤ k := Nat.le_trans List.count_le_length (List.length_take_le _ _)
            have hui2 := HUC.out i hlt
            rw [HP1.out] at hui2
            have hq6 : (w6.drewN q').cell? ⟨w.heap.size, 0, none⟩ = some (.slice (some ⟨gn, on', none⟩) l.length cap) := q6
            have hui' : (w6.drewN q').cell? ⟨gu, ou + i, none⟩ = some (.int .i64 p) := hui2
            have p8 : (w6.drewN q').cell? ⟨gn, on' + p * 10 + 8, none⟩ = some (.slice pa y.kids.length pc) := P8.out
            have hkb := HKB.out
            clear hui2
            by_cases hkl : k < y.kids.length
            · have hkl' : (k : Int) < (y.kids.length : Int) := by omega
              obtain ⟨gk, ok, rfl, -, -, hkc⟩ := PK.out.at hkl
              have kc : (w6.drewN q').cell? ⟨gk, ok + k, none⟩ = some (.int .i64 y.kids[k]) := hkc k hkl
              have HCN : RowKit.Hid ((y.kids.take (k + 1)).count (i : Int) = (y.kids.take k).count (i : Int) + if y.kids[k] = (i : Int) then 1 else 0) := by
                show _ = _
                rw [List.take_succ_eq_append_getElem hkl, List.count_append, List.count_singleton]
                simp only [beq_iff_eq]
              clear hkc
              generalize y.kids[k] = kk at *
              generalize (y.kids.take k).count (i : Int) = cn at *
              generalize hwy : w6.drewN q' = wy at *
              have HWY := Lib.hid hwy
              clear hwy
              by_cases hkk : kk = (i : Int)
              · have hkb1 : (kk == (i : Int)) = true := by rw [hkk]; simp
                rw [if_pos hkk] at HCN
                clear hkk
                go_wp2_with fail
                go_quiet (fail)
                go_wp2_with fail
                go_quiet (fail)
                go_wp2_with fail
                go_roundw
                case rel => exact ⟨k + 1, _, by omega, by go_num, by rw [HCN.out]; first | go_num | rfl, two_draws HWY.out⟩
                case measure => simp [RowKit.intOf]; omega
              · have hkb1 : (kk == (i : Int)) = false := by rw [beq_eq_false_iff_ne]; exact hkk
                rw [if_neg hkk, Nat.add_zero] at HCN
                clear hkk
                go_wp2_with fail
                go_quiet (fail)
                go_wp2_with fail
                go_quiet (fail)
                go_wp2_with fail
                go_roundw
                case rel => exact ⟨k + 1, _, by omega, by go_num, by rw [HCN.out]; rfl, two_draws HWY.out⟩
                case measure => simp [RowKit.intOf]; omega
            · obtain rfl : k = y.kids.length := by omega
              have HC1 : RowKit.Hid ((y.kids.take y.kids.length).count (i : Int) = 1) := by show _ = _; rw [List.take_length]; exact HP5.out
              have hkl' : ¬ (y.kids.length : Int) < (y.kids.length : Int) := by omega
              clear hcl
              rw [HC1.out]
              generalize hwy : w6.drewN q' = wy at *
              have HWY := Lib.hid hwy
              clear hwy
              go_wp2_with fail
              go_quiet (fail)
              go_wp2_with fail
              go_roundw
              case rel => exact ⟨i + 1, _, by omega, by omega, by go_num, two_draws HWY.out⟩
              case measure => simp [RowKit.intOf]; omega
        · obtain rfl : i = l.length := by omega
          have hlt' : ¬ (l.length : Int) < (l.length : Int) := by omega
          clear hwb
          go_wp2_with fail
          go_ret
          exact ⟨rfl, below_drewN HE6.out⟩
  · have hwb : (4000 : Int) < weighAt 4000 l 0 := by omega
    clear hwg HWG HOK
    generalize weighAt 4000 l 0 = wg at *
    go_wp2_with fail
    go_ret
    exact ⟨rfl, e2⟩
end treeParts
end Go.Proofs.YtlebikmiophghaaDoor
