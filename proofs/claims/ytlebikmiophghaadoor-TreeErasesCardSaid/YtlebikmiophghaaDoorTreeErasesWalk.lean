/-
  The walk of TreeErases: it returns true whatever it is handed. Conditions: the form's own bounds; the table of powers of ten.
-/
import Derived.Test.YtlebikmiophghaaDoorTreeErasesW
set_option linter.unusedSimpArgs false
set_option linter.unusedVariables false
namespace Go.Proofs.YtlebikmiophghaaDoor
open Go.Shelf Go.RowKit Go.Lib

namespace treeErases
set_option maxHeartbeats 16000000 in
set_option maxRecDepth 100000 in
theorem walk (a : Option Addr) (l : List NodeP) (cap : Nat) (hl : l.length * 136 ≤ reachBytes) (hok : ∀ x ∈ l, NodeOk x) (w : World) (hT : PowT w) (hI : NodesIn w.heap.size w (.slice a l.length cap) l) :
    Calls Tryd.prog 11 #[.agg #[.slice a l.length cap]] w fun e w' => e = .returned (.bool true) ∧ Below w.heap.size w w' := by
  have hl2 : l.length ≤ 4611686018427387904 := by unfold reachBytes at hl; omega
  have mixed : Tryd.prog.follows Departure.mixedOrders = true := rfl
  have HI := Lib.hid hI
  have HT := Lib.hid hT
  have HOK := Lib.hid hok
  have hB0 : Below w.heap.size w (w.alloc (.cells #[.slice a l.length cap] 24)) := (Below.refl _ w).alloc (Nat.le_refl _) _
  have HBX := Lib.hid (heap_alloc_new w (.cells #[.slice a l.length cap] 24))
  have HZ0 : RowKit.Hid ((w.alloc (.cells #[.slice a l.length cap] 24)).heap.size = w.heap.size + 1) := by show _ = _; simp
  have HBC : RowKit.Hid (∀ X, Below (w.alloc (.cells #[.slice a l.length cap] 24)).heap.size (w.alloc (.cells #[.slice a l.length cap] 24)) X → X.cell? ⟨w.heap.size, 0, none⟩ = some (.slice a l.length cap) ∧ Below w.heap.size w X) := fun X h =>
    ⟨cell_only ((h.block _ (by rw [HZ0.out]; exact Nat.lt_succ_self _)).trans HBX.out), hB0.trans (h.mono (by rw [HZ0.out]; omega))⟩
  have HZL : RowKit.Hid (w.heap.size < (w.alloc (.cells #[.slice a l.length cap] 24)).heap.size) := by show _ < _; rw [HZ0.out]; omega
  have hA0 := treeAlive_any _ (HT.out.below hB0)
  have HWG := Lib.hid (fun (X : World) h => weigh_any a cap l 2000 (by omega) (by omega) hl2 hok X h)
  clear hI hT hok hB0 hl hl2
  generalize hw0 : w.alloc (.cells #[.slice a l.length cap] 24) = w0 at *
  go_enter Tryd.func11, Tryd.ntmps11
  go_wp2_with fail
  refine hA0.mono ?_
  rintro e w1 ⟨rfl, b1⟩
  clear hA0 hw0
  obtain ⟨q1, e1⟩ := HBC.out w1 b1
  go_wp2_with fail
  refine (HWG.out w1 (HI.out.later e1)).mono ?_
  rintro e w2 ⟨rfl, b2⟩
  have b02 := b1.trans (b2.mono b1.size)
  obtain ⟨q2, e2⟩ := HBC.out w2 b02
  clear q1 e1 b1 b2
  by_cases hwg : weighAt 2000 l 0 ≤ 2000
  · obtain ⟨s1, s2, s3⟩ := weigh_small (by omega) HOK.out hwg
    have hwb : ¬ (2000 : Int) < weighAt 2000 l 0 := by omega
    have HCP := Lib.hid (fun (a' : Option Addr) (c' : Nat) (X : World) h => copyTree_any a' c' l s1 s3 X h)
    have HRT := Lib.hid (fun (a' : Option Addr) (c' : Nat) (X : World) h => right_any a' c' l (by omega) HOK.out X h)
    have HER := Lib.hid (fun (a' : Option Addr) (c' : Nat) (X : World) h => erase_tree a' c' l (by omega) (fun x hx => by have := s3 x hx; omega) X h)
    have HRE := Lib.hid (fun (a' : Option Addr) (c' : Nat) (X : World) h => refErase_any a' c' l (by omega) (fun x hx => by have := s3 x hx; omega) X h)
    have HSE := Lib.hid (fun (a' b' : Option Addr) (c' d' : Nat) (X : World) h h' => same_erased a' b' c' d' l (by omega) (fun x hx => by have := s3 x hx; omega) X h h')
    have HST := Lib.hid (fun (a' b' : Option Addr) (c' d' : Nat) (X : World) h h' => sameTree_tree a' b' c' d' l (by omega) (fun x hx => by have := s3 x hx; omega) X h h')
    have HSH := Lib.hid (fun (up : List Int) (hp : parentsP l = some up) (a' : Option Addr) (c' : Nat) (X : World) hT h => show_some a' c' l up hp (by omega) HOK.out s2 X hT h)
    have HSI := Lib.hid (fun (up : List Int) (hp : parentsP l = some up) (a' : Option Addr) (c' : Nat) (X : World) hT h => show_erased a' c' l up hp (by omega) HOK.out s2 X hT h)
    clear s2 s3 hwg HWG
    generalize weighAt 2000 l 0 = wg at *
    go_wp2_with fail
    refine (HCP.out a cap w2 (HI.out.later e2)).mono ?_
    rintro e w3 ⟨⟨a3, c3, rfl, hn3⟩, b3⟩
    have b03 := b02.trans (b3.mono b02.size)
    obtain ⟨q3, e3⟩ := HBC.out w3 b03
    have hl3 : w.heap.size < w3.heap.size := Nat.lt_of_lt_of_le HZL.out b03.size
    have HWB := Lib.hid hwb
    clear q2 b02 b3 e2
    go_upto_region 6 with fail
    have hA : Below w3.heap.size w3 (w3.alloc (.cells #[.slice a3 l.length c3] 24)) := (Below.refl _ w3).alloc (Nat.le_refl _) _
    have HX3 := Lib.hid (heap_alloc_new w3 (.cells #[.slice a3 l.length c3] 24))
    have HN3 := Lib.hid (hn3.later hA)
    have HE3 := Lib.hid (e3.trans (hA.mono e3.size))
    have HL3 : RowKit.Hid (w.heap.size < (w3.alloc (.cells #[.slice a3 l.length c3] 24)).heap.size) := Nat.lt_of_lt_of_le hl3 hA.size
    have HQ3 : RowKit.Hid ((w3.alloc (.cells #[.slice a3 l.length c3] 24)).cell? ⟨w.heap.size, 0, none⟩ = some (.slice a l.length cap)) := (hA.cell (p := ⟨w.heap.size, 0, none⟩) hl3).trans q3
    clear hA hn3 e3 b03 hl3 q3
    generalize w3.alloc (.cells #[.slice a3 l.length c3] 24) = W3 at *
    have hx3 := cell_only HX3.out
    go_wp2_with fail
    refine (HER.out a3 c3 W3 HN3.out).mono ?_
    rintro e w4 ⟨⟨a4, c4, rfl, hn4⟩, b4⟩
    have e4 := HE3.out.trans (b4.mono HE3.out.size)
    have hA : Below w4.heap.size w4 (w4.alloc (.cells #[.slice a4 l.length c4] 24)) := (Below.refl _ w4).alloc (Nat.le_refl _) _
    have hA4 := b4.trans (hA.mono b4.size)
    have HX := Lib.hid (EraseX.mk ((HI.out.later e4).later hA) (HN3.out.later hA4) (hn4.later hA) ((hA4.cell (p := ⟨w.heap.size, 0, none⟩) HL3.out).trans HQ3.out) ((hA4.cell (p := ⟨w3.heap.size, 0, none⟩) (Array.getElem?_eq_some_iff.1 HX3.out).1).trans hx3) (cell_only (heap_alloc_new w4 (.cells #[.slice a4 l.length c4] 24))) (Nat.lt_of_lt_of_le HL3.out hA4.size) (Nat.lt_of_lt_of_le (Array.getElem?_eq_some_iff.1 HX3.out).1 hA4.size) (Array.getElem?_eq_some_iff.1 (heap_alloc_new w4 (.cells #[.slice a4 l.length c4] 24))).1 (e4.trans (hA.mono e4.size)) (HT.out.below (e4.trans (hA.mono e4.size))))
    clear hA hA4 hn4 b4 e4 hx3
    go_upto_region 7 with fail
    generalize w4.alloc (.cells #[.slice a4 l.length c4] 24) = W4 at *
    generalize w3.heap.size = B3 at *
    generalize w4.heap.size = B4 at *
    have h1 := HX.out.box1
    have h3 := HX.out.box3
    have h4 := HX.out.box4
    have hD : Below W4.heap.size W4 W4.drew := (Below.refl _ W4).drew
    have HXD := Lib.hid (HX.out.later hD)
    clear hD
    go_region_with (first
      | (go_at_call 33; (with_reducible refine (HRE.out _ _ _ HXD.out.n1).mono ?_); rintro e w8 ⟨⟨a8, c8, rfl, hn8⟩, b8⟩; have HX8 := Lib.hid (HXD.out.later b8); have HN8 := Lib.hid hn8; have k1 := HX8.out.box1; have k3 := HX8.out.box3; have k4 := HX8.out.box4; clear hn8 b8)
      | (go_at_call 32; (with_reducible refine (HSE.out _ _ _ _ _ HX8.out.n4 HN8.out).mono ?_); rintro e w9 ⟨rfl, b9⟩; have HX9 := Lib.hid (HX8.out.later b9); have m1 := HX9.out.box1; have m3 := HX9.out.box3; have m4 := HX9.out.box4; clear b9)
      | (go_at_call 32; (with_reducible refine (HST.out _ _ _ _ _ HX9.out.n3 HX9.out.n1).mono ?_); rintro e w10 ⟨rfl, b10⟩; have HX10 := Lib.hid (HX9.out.later b10); have p1 := HX10.out.box1; have p3 := HX10.out.box3; have p4 := HX10.out.box4; clear b10))
    all_goals
      clear HX HXD HX8 HX9 HN8 k1 k3 k4 m1 m3 m4 h1 h3 h4 p3 p4 HRE HSE HST HER
      go_wp2_with fail
      refine (HCP.out a cap w10 HX10.out.n1).mono ?_
      rintro e w11 ⟨⟨a11, c11, rfl, hn11⟩, b11⟩
      have HX11 := Lib.hid (HX10.out.later b11)
      clear b11 HX10 p1
      go_wp2_with fail
      refine (HRT.out a11 c11 w11 hn11).mono ?_
      rintro e w12 ⟨rfl, b12⟩
      have HX12 := Lib.hid (HX11.out.later b12)
      have q1 := HX12.out.box1
      clear b12 hn11 HX11
      cases hp : parentsP l with
      | none =>
        rw [Option.isSome_none]
        go_wp2_with fail
        go_ret
        exact ⟨rfl, HX12.out.below⟩
      | some up =>
        rw [Option.isSome_some]
        have HS0 := Lib.hid (HSH.out up hp)
        have HS1 := Lib.hid (HSI.out up hp)
        clear hp HSH HSI HRT
        generalize (⟨(showL l up).toArray⟩ : ByteArray) = T at *
        go_wp2_with fail
        refine (HCP.out a cap w12 HX12.out.n1).mono ?_
        rintro e w13 ⟨⟨a13, c13, rfl, hn13⟩, b13⟩
        have HX13 := Lib.hid (HX12.out.later b13)
        clear b13 HX12 q1 HCP
        go_wp2_with fail
        refine (HS0.out a13 c13 w13 HX13.out.pow hn13).mono ?_
        rintro e w14 ⟨rfl, b14⟩
        have HX14 := Lib.hid (HX13.out.later b14)
        have q4 := HX14.out.box4
        clear b14 hn13 HX13
        go_wp2_with fail
        refine (HS1.out a4 c4 w14 HX14.out.pow HX14.out.n4).mono ?_
        rintro e w15 ⟨rfl, b15⟩
        have HX15 := Lib.hid (HX14.out.later b15)
        clear b15 HX14 q4 HS0 HS1
        go_wp2_with fail
        go_ret
        exact ⟨rfl, HX15.out.below⟩
  · have hwb : (2000 : Int) < weighAt 2000 l 0 := by omega
    clear hwg HWG HOK
    generalize weighAt 2000 l 0 = wg at *
    go_wp2_with fail
    go_ret
    exact ⟨rfl, e2⟩
end treeErases
end Go.Proofs.YtlebikmiophghaaDoor
