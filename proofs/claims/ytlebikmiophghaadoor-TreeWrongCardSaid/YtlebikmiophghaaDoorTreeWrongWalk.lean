/-
  The walk of TreeWrong: it returns true whatever it is handed. Conditions: the form's own bounds; the table of powers of ten.
-/
import Derived.Test.YtlebikmiophghaaDoorTreeWeigh
import Derived.Test.YtlebikmiophghaaDoorTreeWrongW
import Derived.Test.YtlebikmiophghaaDoorTreePartsWalk
set_option linter.unusedSimpArgs false
set_option linter.unusedVariables false
namespace Go.Proofs.YtlebikmiophghaaDoor
open Go.Shelf Go.RowKit Go.Lib

namespace treeWrong
set_option maxHeartbeats 16000000 in
set_option maxRecDepth 100000 in
theorem walk (a : Option Addr) (l : List NodeP) (cap : Nat) (hl : l.length * 136 ≤ reachBytes) (hok : ∀ x ∈ l, NodeOk x) (k1 : Int) (_w1 : (Lit.int .i64 k1).wf = true) (k2 : Int) (_w2 : (Lit.int .i64 k2).wf = true) (w : World) (hT : PowT w) (hI : NodesIn w.heap.size w (.slice a l.length cap) l) :
    Calls Tryd.prog 4 #[.agg #[.slice a l.length cap], .int .i64 k1, .int .i64 k2] w fun e w' => e = .returned (.bool true) ∧ Below w.heap.size w w' := by
  have hl2 : l.length ≤ 4611686018427387904 := by unfold reachBytes at hl; omega
  have mixed : Tryd.prog.follows Departure.mixedOrders = true := rfl
  have HI := Lib.hid hI
  clear _w1 _w2
  have HT := Lib.hid hT
  have HOK := Lib.hid hok
  have hB0 : Below w.heap.size w (w.alloc (.cells #[.slice a l.length cap] 24)) := (Below.refl _ w).alloc (Nat.le_refl _) _
  have HBX := Lib.hid (heap_alloc_new w (.cells #[.slice a l.length cap] 24))
  have HZ0 : RowKit.Hid ((w.alloc (.cells #[.slice a l.length cap] 24)).heap.size = w.heap.size + 1) := by show _ = _; simp
  have HBC : RowKit.Hid (∀ X, Below (w.alloc (.cells #[.slice a l.length cap] 24)).heap.size (w.alloc (.cells #[.slice a l.length cap] 24)) X → X.cell? ⟨w.heap.size, 0, none⟩ = some (.slice a l.length cap) ∧ Below w.heap.size w X) := fun X h =>
    ⟨cell_only ((h.block _ (by rw [HZ0.out]; exact Nat.lt_succ_self _)).trans HBX.out), hB0.trans (h.mono (by rw [HZ0.out]; omega))⟩
  have hA0 := treeAlive_any _ (HT.out.below hB0)
  have HWG := Lib.hid (fun (X : World) h => weigh_any a cap l 4000 (by omega) (by omega) hl2 hok X h)
  clear hI hT hok hB0 hl hl2
  generalize hw0 : w.alloc (.cells #[.slice a l.length cap] 24) = w0 at *
  go_enter Tryd.func4, Tryd.ntmps4
  go_wp2_with fail
  refine hA0.mono ?_
  rintro e w1 ⟨rfl, b1⟩
  clear hA0 hw0
  obtain ⟨q1, e1⟩ := HBC.out w1 b1
  go_wp2_with fail
  refine (HWG.out w1 (HI.out.later e1)).mono ?_
  rintro e w2 ⟨rfl, b2⟩
  have b02 := b1.trans (b2.mono b1.size)
  obtain ⟨q2, e2⟩ := HBC.out w2 b02
  clear q1 e1 b1 b2
  by_cases hwg : weighAt 4000 l 0 ≤ 4000
  · obtain ⟨s1, s2, s3⟩ := weigh_small (by omega) HOK.out hwg
    have hwb : ¬ (4000 : Int) < weighAt 4000 l 0 := by omega
    have HCP := Lib.hid (fun (a' : Option Addr) (c' : Nat) (X : World) h => copyTree_any a' c' l s1 s3 X h)
    have HRT := Lib.hid (fun (a' : Option Addr) (c' : Nat) (X : World) h => right_any a' c' l (by omega) HOK.out X h)
    have HS := Lib.hid s1
    have HS3 := Lib.hid s3
    have HCO := Lib.hid (fun (X : World) h => copyTree_own a cap l (by omega) (fun x hx => by have := s3 x hx; omega) X h)
    clear s2 s3 hwg HWG
    generalize weighAt 4000 l 0 = wg at *
    go_wp2_with fail
    refine (HCP.out a cap w2 (HI.out.later e2)).mono ?_
    rintro e w3 ⟨⟨a3, c3, rfl, hn3⟩, b3⟩
    have b03 := b02.trans (b3.mono b02.size)
    obtain ⟨q3, e3⟩ := HBC.out w3 b03
    clear q2 b02 b3
    go_wp2_with fail
    refine (HRT.out a3 c3 w3 hn3).mono ?_
    rintro e w4 ⟨rfl, b4⟩
    have b04 := b03.trans (b4.mono b03.size)
    obtain ⟨q4, e4⟩ := HBC.out w4 b04
    clear q3 e3 b03 b4 hn3
    have HWB := Lib.hid hwb
    cases hp : parentsP l with
    | none =>
      rw [Option.isSome_none]
      go_wp2_with fail
      go_ret
      exact ⟨rfl, e4⟩
    | some up =>
      rw [Option.isSome_some]
      have HP := Lib.hid hp
      clear hp
      by_cases hk0 : k1 < 0
      · go_wp2_with fail
        go_ret
        exact ⟨rfl, e4⟩
      by_cases hk1 : (l.length : Int) ≤ k1
      · go_wp2_with fail
        go_ret
        exact ⟨rfl, e4⟩
      obtain ⟨p, rfl⟩ : ∃ p : Nat, k1 = (p : Int) := ⟨k1.toNat, by omega⟩
      have hpl : p < l.length := by omega
      have hpl' : (p : Int) < (l.length : Int) := by omega
      have hp0 : (0 : Int) ≤ (p : Int) := by omega
      go_wp2_with fail
      refine (HCO.out w4 (HI.out.later e4)).mono ?_
      rintro e w5 ⟨⟨v, rs, rfl, hT5, hM⟩, b5⟩
      have hrl : rs.length = l.length := by rw [← hM]; simp
      have hpr : p < rs.length := by omega
      have hpr' : (p : Int) < (rs.length : Int) := by omega
      obtain ⟨g, cp, rfl, -⟩ := someRow (by omega) hT5.row
      have HM := Lib.hid hM
      have HRL := Lib.hid hrl
      have HT5 := Lib.hid hT5
      have b05 := b04.trans (b5.mono b04.size)
      obtain ⟨-, e5⟩ := HBC.out w5 b05
      have e4z := e4.size
      have HN5 : RowKit.Hid (w4.heap.size ≤ w5.heap.size) := b5.size
      have HBN5 : RowKit.Hid (w.heap.size ≤ w5.heap.size) := e5.size
      clear hM hrl hT5 q4 e4 b04 b5 HCO HRT
      go_upto_region 7 with fail
      have hB6 : Below w5.heap.size w5 (w5.alloc (.cells #[.slice (some ⟨g, 0, none⟩) rs.length cp] 24)) := (Below.refl _ w5).alloc (Nat.le_refl _) _
      have HX6 := Lib.hid (heap_alloc_new w5 (.cells #[.slice (some ⟨g, 0, none⟩) rs.length cp] 24))
      have HT6 := Lib.hid (HT5.out.later hB6)
      have HB6 := Lib.hid (e5.trans (hB6.mono e5.size))
      have HB56 : RowKit.Hid (w5.heap.size ≤ (w5.alloc (.cells #[.slice (some ⟨g, 0, none⟩) rs.length cp] 24)).heap.size) := hB6.size
      clear hB6 HT5
      generalize w5.alloc (.cells #[.slice (some ⟨g, 0, none⟩) rs.length cp] 24) = W6 at *
      generalize w5.heap.size = B at *
      have HBN : RowKit.Hid (w.heap.size ≤ B) := HBN5
      have hbx6 := cell_only HX6.out
      have HOKP : RowKit.Hid (NodeOk rs[p].n) := HOK.out _ (by rw [← HM.out]; exact List.mem_map.2 ⟨_, List.getElem_mem hpr, rfl⟩)
      have HSP : RowKit.Hid (rs[p].n.kids.length ≤ 4000 ∧ rs[p].n.pieces.length ≤ 4000 ∧ rs[p].n.text.size ≤ 4000 ∧ rs[p].n.link.size ≤ 4000 ∧ rs[p].n.title.size ≤ 4000) := HS3.out _ (by rw [← HM.out]; exact List.mem_map.2 ⟨_, List.getElem_mem hpr, rfl⟩)
      have HN4 : RowKit.Hid (w.heap.size ≤ w4.heap.size) := e4z
      have HWS : RowKit.Hid (∀ v : NodeP, NodeOk v → v.kids.length ≤ 100000 ∧ v.pieces.length ≤ 100000 → parentsP (l.set p v) = none → WrongL ((rs.map NodeV.n).set p v)) := fun v h1 h2 h3 => by rw [HM.out]; exact wrong_set HS.out HS3.out HOK.out h1 h2 h3
      have HKP : RowKit.Hid (∀ k : Int, rs[p].n.kids ++ [k] = l[p]!.kids ++ [k]) := fun k => by rw [getElem!_pos l p hpl]; simp [← HM.out]
      have HLN : RowKit.Hid (∀ v : NodeP, rs.length = ((rs.map NodeV.n).set p v).length) := fun v => by simp
      by_cases h2 : k2 = 2
      · subst h2
        have t := tree_plain (c := 0) HT6.out hpr (by decide) { rs[p].n with kind := 19 } (.int .i64 19) rfl rfl rfl
        rw [Nat.add_zero] at t
        obtain ⟨t1, t2, t3, t4, t5⟩ := t
        replace t2 : W6.cell? ⟨g, p * 10, none⟩ = some (.int .i64 rs[p].n.kind) := t2
        have HX := Lib.hid (wrongX_set (j := p * 10) HT6.out.row HX6.out HB6.out HN4.out (HWS.out { rs[p].n with kind := 19 } ⟨HOKP.out.text, HOKP.out.link, HOKP.out.title, HOKP.out.kids, HOKP.out.pieces, HOKP.out.level, HOKP.out.till⟩ (by have := HSP.out; show rs[p].n.kids.length ≤ 100000 ∧ rs[p].n.pieces.length ≤ 100000; omega) (wrong_fields hpl _ (fields_kind rfl))) (HLN.out _) t1)
        have hbx := HX.out.box
        clear t1 t4 t5
        clear HB6
        go_wp2_with fail
        refine (wrong_copy _ _ _ HX.out.len HX.out.bad _ HX.out.nodes).mono ?_
        rintro e w8 ⟨⟨a8, c8, rfl, hn8⟩, b8⟩
        have HX8 := Lib.hid (HX.out.later b8)
        have HL := Lib.hid (And.intro HX.out.len HX.out.bad)
        clear hbx HX b8
        go_wp2_with fail
        refine (wrong_show _ _ _ HL.out.1 HL.out.2 w8 hn8).mono ?_
        rintro e w9 ⟨rfl, b9⟩
        have HX9 := Lib.hid (HX8.out.later b9)
        have hbx := HX9.out.box
        clear HX8 b9 hn8
        go_wp2_with fail
        refine (wrong_right _ _ _ HL.out.1 HL.out.2 w9 HX9.out.nodes).mono ?_
        rintro e w10 ⟨rfl, b10⟩
        have HX10 := Lib.hid (HX9.out.later b10)
        clear hbx HX9 b10
        go_wp2_with fail
        go_ret
        exact ⟨rfl, HX10.out.below⟩
      by_cases h3 : k2 = 3
      · subst h3
        have t := tree_plain (c := 1) HT6.out hpr (by decide) { rs[p].n with fr := wrap64 (rs[p].n.to + 1) } (.int .i64 (wrap64 (rs[p].n.to + 1))) rfl rfl rfl
        obtain ⟨t1, t2, t3, t4, t5⟩ := t
        replace t2 : W6.cell? ⟨g, p * 10 + 1, none⟩ = some (.int .i64 rs[p].n.fr) := t2
        have HX := Lib.hid (wrongX_set (j := p * 10 + 1) HT6.out.row HX6.out HB6.out HN4.out (HWS.out { rs[p].n with fr := wrap64 (rs[p].n.to + 1) } ⟨HOKP.out.text, HOKP.out.link, HOKP.out.title, HOKP.out.kids, HOKP.out.pieces, HOKP.out.level, HOKP.out.till⟩ (by have := HSP.out; show rs[p].n.kids.length ≤ 100000 ∧ rs[p].n.pieces.length ≤ 100000; omega) (wrong_fields hpl _ (fields_places (by have := wrap_more64 HOKP.out.till; rcases this with h | h; exact .inl h; exact .inr (.inl h))))) (HLN.out _) t1)
        have hbx := HX.out.box
        clear t1 t4 t5
        have hto : W6.cell? ⟨g, p * 10 + 2, none⟩ = some (.int .i64 rs[p].n.to) := (nodes_to HT6.out hpr)
        clear HB6
        go_wp2_with fail
        refine (wrong_copy _ _ _ HX.out.len HX.out.bad _ HX.out.nodes).mono ?_
        rintro e w8 ⟨⟨a8, c8, rfl, hn8⟩, b8⟩
        have HX8 := Lib.hid (HX.out.later b8)
        have HL := Lib.hid (And.intro HX.out.len HX.out.bad)
        clear hbx HX b8
        go_wp2_with fail
        refine (wrong_show _ _ _ HL.out.1 HL.out.2 w8 hn8).mono ?_
        rintro e w9 ⟨rfl, b9⟩
        have HX9 := Lib.hid (HX8.out.later b9)
        have hbx := HX9.out.box
        clear HX8 b9 hn8
        go_wp2_with fail
        refine (wrong_right _ _ _ HL.out.1 HL.out.2 w9 HX9.out.nodes).mono ?_
        rintro e w10 ⟨rfl, b10⟩
        have HX10 := Lib.hid (HX9.out.later b10)
        clear hbx HX9 b10
        go_wp2_with fail
        go_ret
        exact ⟨rfl, HX10.out.below⟩
      by_cases h4 : k2 = 4
      · subst h4
        have hA : Below W6.heap.size W6 (W6.alloc (.cells #[.int .i64 0, .int .i64 0] 36)) := (Below.refl _ W6).alloc (Nat.le_refl _) _
        have HY := Lib.hid (HT6.out.later hA)
        have HYB := Lib.hid (HB6.out.trans (hA.mono HB6.out.size))
        have HYX := Lib.hid ((hA.block _ (Array.getElem?_eq_some_iff.1 HX6.out).1).trans HX6.out)
        obtain ⟨t1, t2, t3, t4, t5⟩ := tree_piece HY.out hpr (heap_alloc_new W6 (.cells #[.int .i64 0, .int .i64 0] 36))
        have HX := Lib.hid (wrongX_set (j := p * 10 + 9) HY.out.row HYX.out HYB.out HN4.out (HWS.out { rs[p].n with pieces := [⟨0, 0⟩] } ⟨HOKP.out.text, HOKP.out.link, HOKP.out.title, HOKP.out.kids, (by show 1 * 16 ≤ _; omega), HOKP.out.level, HOKP.out.till⟩ (by have := HSP.out; show rs[p].n.kids.length ≤ 100000 ∧ 1 ≤ 100000; omega) (wrong_fields hpl _ (fields_places (.inr (.inr (by simp)))))) (HLN.out _) t1)
        have hbx := HX.out.box
        clear t1 t4 t5 hA
        clear HB6
        go_wp2_with fail
        refine (wrong_copy _ _ _ HX.out.len HX.out.bad _ HX.out.nodes).mono ?_
        rintro e w8 ⟨⟨a8, c8, rfl, hn8⟩, b8⟩
        have HX8 := Lib.hid (HX.out.later b8)
        have HL := Lib.hid (And.intro HX.out.len HX.out.bad)
        clear hbx HX b8
        go_wp2_with fail
        refine (wrong_show _ _ _ HL.out.1 HL.out.2 w8 hn8).mono ?_
        rintro e w9 ⟨rfl, b9⟩
        have HX9 := Lib.hid (HX8.out.later b9)
        have hbx := HX9.out.box
        clear HX8 b9 hn8
        go_wp2_with fail
        refine (wrong_right _ _ _ HL.out.1 HL.out.2 w9 HX9.out.nodes).mono ?_
        rintro e w10 ⟨rfl, b10⟩
        have HX10 := Lib.hid (HX9.out.later b10)
        clear hbx HX9 b10
        go_wp2_with fail
        go_ret
        exact ⟨rfl, HX10.out.below⟩
      by_cases h5 : k2 = 5
      · subst h5
        obtain ⟨i0, hi, hz0, hz1, hz2⟩ := info_parts infoNode
        have hA : Below W6.heap.size W6 (W6.alloc (.cells #[.int .i64 5, .int .i64 0, .int .i64 0, .int .i64 0, .string ⟨#[]⟩, .string ⟨#[]⟩, .string ⟨#[]⟩, .bool false, .slice none 0 0, .slice none 0 0] 33)) := (Below.refl _ W6).alloc (Nat.le_refl _) _
        have HY := Lib.hid (HT6.out.later hA)
        have HYB := Lib.hid (HB6.out.trans (hA.mono HB6.out.size))
        have HYX := Lib.hid ((hA.block _ (Array.getElem?_eq_some_iff.1 HX6.out).1).trans HX6.out)
        have hRow := HY.out.row
        have hNew := new_ten W6 33 paraV W6.heap.size rfl
        simp only at hNew
        have hrl6 : rs.length ≤ 4000 := by rw [HRL.out]; exact HS.out
        have hwz6 : w4.heap.size ≤ (W6.alloc (.cells #[.int .i64 5, .int .i64 0, .int .i64 0, .int .i64 0, .string ⟨#[]⟩, .string ⟨#[]⟩, .string ⟨#[]⟩, .bool false, .slice none 0 0, .slice none 0 0] 33)).heap.size := Nat.le_trans HN5.out (Nat.le_trans HB56.out hA.size)
        have HF := Lib.hid (fun (v' : Value) (w8 : World) h5 hg => tree_more (v' := v') (w8 := w8) HY.out HYX.out HYB.out HN4.out HBN.out (by rw [HM.out]; exact wrong_para HS.out HS3.out HOK.out HP.out) h5 hg)
        clear hA
        go_wp2_with (at_builtin; (refine wpList_append_own _ rfl _ _ 22 rfl w4.heap.size 33 i0 (.agg #[.int .i64 0, .int .i64 0, .int .i64 0, .int .i64 0, .string ⟨#[]⟩, .string ⟨#[]⟩, .string ⟨#[]⟩, .bool false, .slice none 0 0, .slice none 0 0]) 10 136 Tryd.underlying22 hi hz0 hz1 hz2 rfl (by decide) _ _ _ rfl hRow ⟨W6.heap.size, 0, none⟩ 1 1 (nodeC paraV) rfl rfl hNew (one_ten _ rfl rfl) (by unfold maxLen; omega) (by omega) hwz6 ?_); intro v50 w8 hR5 hg5 _; obtain ⟨⟨y2, yb⟩, a5, c5, rfl, HXX⟩ := HF.out _ w8 hR5 hg5; have yf := frozen_plain yb 0; have HX := Lib.hid HXX; have hbx := HXX.box; clear HXX hR5 hg5)
        refine (wrong_copy _ _ _ HX.out.len HX.out.bad _ HX.out.nodes).mono ?_
        rintro e w8 ⟨⟨a8, c8, rfl, hn8⟩, b8⟩
        have HX8 := Lib.hid (HX.out.later b8)
        have HL := Lib.hid (And.intro HX.out.len HX.out.bad)
        clear hbx HX b8
        go_wp2_with fail
        refine (wrong_show _ _ _ HL.out.1 HL.out.2 w8 hn8).mono ?_
        rintro e w9 ⟨rfl, b9⟩
        have HX9 := Lib.hid (HX8.out.later b9)
        have hbx := HX9.out.box
        clear HX8 b9 hn8
        go_wp2_with fail
        refine (wrong_right _ _ _ HL.out.1 HL.out.2 w9 HX9.out.nodes).mono ?_
        rintro e w10 ⟨rfl, b10⟩
        have HX10 := Lib.hid (HX9.out.later b10)
        clear hbx HX9 b10
        go_wp2_with fail
        go_ret
        exact ⟨rfl, HX10.out.below⟩
      by_cases h0 : k2 = 0
      · subst h0
        go_upto_region 10 with fail
        obtain ⟨i0, hi, hz0, hz1, hz2⟩ := info_parts infoInt
        have hA : Below W6.heap.size W6 (W6.drew.alloc (.cells #[.int .i64 (rs.length : Int)] 3)) := ((Below.refl _ W6).drew).alloc (Nat.le_refl _) _
        have hA2 : Below W6.heap.size W6 (W6.alloc (.cells #[.int .i64 (rs.length : Int)] 3)) := (Below.refl _ W6).alloc (Nat.le_refl _) _
        have hVp := (HT6.out.own _ (List.getElem_mem hpr)).kids
        obtain ⟨ka, kc, hkv, -⟩ := ownsRow_slice hVp
        have hk8 : W6.cell? ⟨g, p * 10 + 8, none⟩ = some rs[p].kv := nodes_at HT6.out hpr (c := 8) (by decide)
        have hk9 := (hA2.cell (p := ⟨g, p * 10 + 8, none⟩) (ownsRow_lt HT6.out.row (k := g) rfl).2).trans hk8
        have hbA := cell_only ((hA2.block _ (Array.getElem?_eq_some_iff.1 HX6.out).1).trans HX6.out)
        rw [hkv] at hk8 hk9 hVp
        have hkl := HSP.out.1
        have hNd : w4.heap.size ≤ W6.heap.size := Nat.le_trans HN5.out HB56.out
        have HF := Lib.hid (fun (v5 : Value) (w5' : World) h5 hg => tree_kid2 (k := (rs.length : Int)) (v5 := v5) (w5 := w5') (HT6.out.later hA) hpr hkv ((hA.block _ (Array.getElem?_eq_some_iff.1 HX6.out).1).trans HX6.out) (HB6.out.trans (hA.mono HB6.out.size)) HN4.out (HWS.out { rs[p].n with kids := rs[p].n.kids ++ [(rs.length : Int)] } ⟨HOKP.out.text, HOKP.out.link, HOKP.out.title, (by show (rs[p].n.kids ++ [(rs.length : Int)]).length * 8 ≤ _; rw [List.length_append, List.length_singleton]; omega), HOKP.out.pieces, HOKP.out.level, HOKP.out.till⟩ (by have := HSP.out; show (rs[p].n.kids ++ [(rs.length : Int)]).length ≤ 100000 ∧ rs[p].n.pieces.length ≤ 100000; rw [List.length_append, List.length_singleton]; omega) (wrong_kid hpl _ (rs.length : Int) (HKP.out _) (.inl (by rw [HRL.out])))) h5 hg)
        have HKV := Lib.hid hkv
        clear hA hA2 hkv
        generalize rs[p].n.kids.length = kn at *
        go_region_law ((refine step_append_own rfl _ _ 29 rfl w4.heap.size 3 i0 (.int .i64 0) 1 8 Tryd.underlying29 hi hz0 hz1 hz2 rfl (by decide) _ _ _ rfl (hVp.alloc _) ⟨W6.heap.size, 0, none⟩ 1 1 [.int .i64 (rs.length : Int)] rfl rfl (newInt _ _) (oneInt _) (by unfold maxLen; omega) (by omega) (Nat.le_trans hNd (by simp)) ?_); intro v5 w5' hR5 hg5; obtain ⟨a5, c5, rfl, -⟩ := ownsRow_slice hR5; obtain ⟨⟨y2, y3⟩, HX⟩ := HF.out _ w5' hR5 hg5)
        all_goals
          have hbx := HX.out.box
          go_wp2_with fail
          refine (wrong_copy _ _ _ HX.out.len HX.out.bad _ HX.out.nodes).mono ?_
          rintro e w8 ⟨⟨a8, c8, rfl, hn8⟩, b8⟩
          have HX8 := Lib.hid (HX.out.later b8)
          have HL := Lib.hid (And.intro HX.out.len HX.out.bad)
          clear hbx HX b8
          go_wp2_with fail
          refine (wrong_show _ _ _ HL.out.1 HL.out.2 w8 hn8).mono ?_
          rintro e w9 ⟨rfl, b9⟩
          have HX9 := Lib.hid (HX8.out.later b9)
          have hbx := HX9.out.box
          clear HX8 b9 hn8
          go_wp2_with fail
          refine (wrong_right _ _ _ HL.out.1 HL.out.2 w9 HX9.out.nodes).mono ?_
          rintro e w10 ⟨rfl, b10⟩
          have HX10 := Lib.hid (HX9.out.later b10)
          clear hbx HX9 b10
          go_wp2_with fail
          go_ret
          exact ⟨rfl, HX10.out.below⟩
      by_cases h1 : k2 = 1
      · subst h1
        obtain ⟨ka, kc, hkv, -⟩ := ownsRow_slice (HT6.out.own _ (List.getElem_mem hpr)).kids
        have hk8' : W6.cell? ⟨g, p * 10 + 8, none⟩ = some rs[p].kv := nodes_at HT6.out hpr (c := 8) (by decide)
        rw [hkv] at hk8'
        by_cases hkz : rs[p].n.kids.length = 0
        · rw [hkz] at hk8'
          go_wp2_with fail
          go_ret
          exact ⟨rfl, HB6.out⟩
        have hII := (HT6.out.own _ (List.getElem_mem hpr)).ints.1
        rw [hkv] at hII
        have hkp : 0 < rs[p].n.kids.length := Nat.pos_of_ne_zero hkz
        obtain ⟨gk, ok, rfl, hgk, -, hcc⟩ := hII.at hkp
        obtain ⟨k0, hkm, hkc⟩ : ∃ k0, k0 ∈ rs[p].n.kids ∧ W6.cell? ⟨gk, ok, none⟩ = some (.int .i64 k0) := ⟨_, List.getElem_mem hkp, hcc 0 hkp⟩
        have HKM : RowKit.Hid (k0 ∈ l[p]!.kids) := by show _ ∈ _; rw [getElem!_pos l p hpl]; simpa [← HM.out] using hkm
        have hkq : ((rs[p].n.kids.length : Int) == 0) = false := by rw [beq_eq_false_iff_ne]; omega
        have hkp' : (0 : Int) < (rs[p].n.kids.length : Int) := by omega
        clear hII hcc hkm
        go_upto_region 14 with fail
        obtain ⟨i0, hi, hz0, hz1, hz2⟩ := info_parts infoInt
        have hA : Below W6.heap.size W6 (W6.drew.alloc (.cells #[.int .i64 k0] 3)) := ((Below.refl _ W6).drew).alloc (Nat.le_refl _) _
        have hA2 : Below W6.heap.size W6 (W6.alloc (.cells #[.int .i64 k0] 3)) := (Below.refl _ W6).alloc (Nat.le_refl _) _
        have hVp := (HT6.out.own _ (List.getElem_mem hpr)).kids
        have HOI := Lib.hid hkc
        have hkA := (hA2.cell (p := ⟨gk, ok, none⟩) hgk).trans hkc
        have hk8 : W6.cell? ⟨g, p * 10 + 8, none⟩ = some rs[p].kv := nodes_at HT6.out hpr (c := 8) (by decide)
        have hk9 := (hA2.cell (p := ⟨g, p * 10 + 8, none⟩) (ownsRow_lt HT6.out.row (k := g) rfl).2).trans hk8
        have hbA := cell_only ((hA2.block _ (Array.getElem?_eq_some_iff.1 HX6.out).1).trans HX6.out)
        rw [hkv] at hk8 hk9 hVp
        clear hk8' 
        have hkl := HSP.out.1
        have hNd : w4.heap.size ≤ W6.heap.size := Nat.le_trans HN5.out HB56.out
        have HF := Lib.hid (fun (v5 : Value) (w5' : World) h5 hg => tree_kid2 (k := k0) (v5 := v5) (w5 := w5') (HT6.out.later hA) hpr hkv ((hA.block _ (Array.getElem?_eq_some_iff.1 HX6.out).1).trans HX6.out) (HB6.out.trans (hA.mono HB6.out.size)) HN4.out (HWS.out { rs[p].n with kids := rs[p].n.kids ++ [k0] } ⟨HOKP.out.text, HOKP.out.link, HOKP.out.title, (by show (rs[p].n.kids ++ [k0]).length * 8 ≤ _; rw [List.length_append, List.length_singleton]; omega), HOKP.out.pieces, HOKP.out.level, HOKP.out.till⟩ (by have := HSP.out; show (rs[p].n.kids ++ [k0]).length ≤ 100000 ∧ rs[p].n.pieces.length ≤ 100000; rw [List.length_append, List.length_singleton]; omega) (wrong_kid hpl _ k0 (HKP.out _) (.inr HKM.out))) h5 hg)
        have HKV := Lib.hid hkv
        clear hA hA2 hkv
        generalize rs[p].n.kids.length = kn at *
        go_region_law ((refine step_append_own rfl _ _ 29 rfl w4.heap.size 3 i0 (.int .i64 0) 1 8 Tryd.underlying29 hi hz0 hz1 hz2 rfl (by decide) _ _ _ rfl (hVp.alloc _) ⟨W6.heap.size, 0, none⟩ 1 1 [.int .i64 k0] rfl rfl (newInt _ _) (oneInt _) (by unfold maxLen; omega) (by omega) (Nat.le_trans hNd (by simp)) ?_); intro v5 w5' hR5 hg5; obtain ⟨a5, c5, rfl, -⟩ := ownsRow_slice hR5; obtain ⟨⟨y2, y3⟩, HX⟩ := HF.out _ w5' hR5 hg5)
        all_goals
          have hbx := HX.out.box
          go_wp2_with fail
          refine (wrong_copy _ _ _ HX.out.len HX.out.bad _ HX.out.nodes).mono ?_
          rintro e w8 ⟨⟨a8, c8, rfl, hn8⟩, b8⟩
          have HX8 := Lib.hid (HX.out.later b8)
          have HL := Lib.hid (And.intro HX.out.len HX.out.bad)
          clear hbx HX b8
          go_wp2_with fail
          refine (wrong_show _ _ _ HL.out.1 HL.out.2 w8 hn8).mono ?_
          rintro e w9 ⟨rfl, b9⟩
          have HX9 := Lib.hid (HX8.out.later b9)
          have hbx := HX9.out.box
          clear HX8 b9 hn8
          go_wp2_with fail
          refine (wrong_right _ _ _ HL.out.1 HL.out.2 w9 HX9.out.nodes).mono ?_
          rintro e w10 ⟨rfl, b10⟩
          have HX10 := Lib.hid (HX9.out.later b10)
          clear hbx HX9 b10
          go_wp2_with fail
          go_ret
          exact ⟨rfl, HX10.out.below⟩
      have q0 : (k2 == 0) = false := by rw [beq_eq_false_iff_ne]; exact h0
      have q1 : (k2 == 1) = false := by rw [beq_eq_false_iff_ne]; exact h1
      have q2 : (k2 == 2) = false := by rw [beq_eq_false_iff_ne]; exact h2
      have q3 : (k2 == 3) = false := by rw [beq_eq_false_iff_ne]; exact h3
      have q4 : (k2 == 4) = false := by rw [beq_eq_false_iff_ne]; exact h4
      have q5 : (k2 == 5) = false := by rw [beq_eq_false_iff_ne]; exact h5
      go_wp2_with fail
      go_ret
      exact ⟨rfl, HB6.out⟩
  · have hwb : (4000 : Int) < weighAt 4000 l 0 := by omega
    clear hwg HWG HOK
    generalize weighAt 4000 l 0 = wg at *
    go_wp2_with fail
    go_ret
    exact ⟨rfl, e2⟩
end treeWrong
end Go.Proofs.YtlebikmiophghaaDoor
