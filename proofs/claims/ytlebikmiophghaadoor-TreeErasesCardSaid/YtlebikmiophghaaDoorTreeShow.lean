/-
  tree.Show, Right, Parents: what they answer. Conditions: bounds on sizes; the table of powers of ten.
-/
import Derived.Test.YtlebikmiophghaaDoorTreeShowW
import Derived.Deep.RegionHeld3
set_option linter.unusedSimpArgs false
set_option linter.unusedVariables false
namespace Go.Proofs.YtlebikmiophghaaDoor
open Go.Shelf Go.RowKit Go.Lib

set_option maxRecDepth 100000 in
set_option maxHeartbeats 4000000 in
theorem right_any (a : Option Addr) (cap : Nat) (l : List NodeP) (hl : l.length ≤ 100000) (hok : ∀ x ∈ l, NodeOk x) (w : World) (hI : NodesIn w.heap.size w (.slice a l.length cap) l) :
    Calls Tryd.prog 14 #[.agg #[.slice a l.length cap]] w fun e w' => e = .returned (.bool (parentsP l).isSome) ∧ Below w.heap.size w w' := by
  have hN : Below w.heap.size w (w.alloc (.cells #[.slice a l.length cap] 24)) := (Below.refl _ w).alloc (Nat.le_refl _) _
  have hP := parents_any a cap l hl hok _ (hI.later hN)
  clear hI
  go_enter Tryd.func14, Tryd.ntmps14
  go_wp2_with fail
  refine hP.mono ?_
  rintro e w1 ⟨(⟨hn, rfl⟩ | ⟨up, v, hs, rfl, ho⟩), b1⟩
  · have HR : RowKit.Hid ((parentsP l).isSome = false) := by show _ = _; rw [hn]; rfl
    clear hn
    go_wp2_with fail
    go_ret
    exact ⟨by rw [HR.out]; rfl, hN.trans (b1.mono hN.size)⟩
  · have HR : RowKit.Hid ((parentsP l).isSome = true) := by show _ = _; rw [hs]; rfl
    obtain ⟨a1, c1, rfl, -⟩ := ownsRow_slice ho
    clear hs ho
    go_wp2_with fail
    go_ret
    exact ⟨by rw [HR.out]; rfl, hN.trans (b1.mono hN.size)⟩
set_option maxRecDepth 100000 in
set_option maxHeartbeats 4000000 in
theorem treeParents_any (a : Option Addr) (cap : Nat) (l : List NodeP) (up : List Int) (hs : parentsP l = some up) (hl : l.length ≤ 100000) (hok : ∀ x ∈ l, NodeOk x) (w : World) (hI : NodesIn w.heap.size w (.slice a l.length cap) l) :
    Calls Tryd.prog 16 #[.agg #[.slice a l.length cap]] w fun e w' => (∃ a' c', e = .returned (.slice a' up.length c') ∧ IntsIn w'.heap.size w' (.slice a' up.length c') up) ∧ Below w.heap.size w w' := by
  have hN : Below w.heap.size w (w.alloc (.cells #[.slice a l.length cap] 24)) := (Below.refl _ w).alloc (Nat.le_refl _) _
  have hP := parents_any a cap l hl hok _ (hI.later hN)
  have HS := Lib.hid hs
  clear hI hs
  go_enter Tryd.func16, Tryd.ntmps16
  go_wp2_with fail
  refine hP.mono ?_
  rintro e w1 ⟨(⟨hn, rfl⟩ | ⟨up', v, hs, rfl, ho⟩), b1⟩
  · rw [HS.out] at hn; cases hn
  · rw [HS.out] at hs
    injection hs with hs
    subst hs
    have hI := intsIn_of_owns ho
    obtain ⟨a1, c1, rfl, -⟩ := ownsRow_slice ho
    clear ho
    go_wp2_with fail
    go_ret
    exact ⟨⟨_, _, rfl, hI⟩, hN.trans (b1.mono hN.size)⟩
set_option maxRecDepth 100000 in
set_option maxHeartbeats 4000000 in
theorem show_none (a : Option Addr) (cap : Nat) (l : List NodeP) (spans : Bool) (hs : parentsP l = none) (hl : l.length ≤ 100000) (hok : ∀ x ∈ l, NodeOk x) (w : World) (hI : NodesIn w.heap.size w (.slice a l.length cap) l) :
    Calls Tryd.prog 17 #[.agg #[.slice a l.length cap], .bool spans] w fun e w' => e = .returned (.tuple #[.string ⟨#[]⟩, .int .i64 30]) ∧ Below w.heap.size w w' := by
  have hN : Below w.heap.size w (w.alloc (.cells #[.slice a l.length cap] 24)) := (Below.refl _ w).alloc (Nat.le_refl _) _
  have hP := parents_any a cap l hl hok _ (hI.later hN)
  have HS := Lib.hid hs
  clear hI hs
  go_enter Tryd.func17, Tryd.ntmps17
  go_wp2_with fail
  refine hP.mono ?_
  rintro e w1 ⟨(⟨hn, rfl⟩ | ⟨up', v, hs, rfl, ho⟩), b1⟩
  · clear hn
    go_wp2_with fail
    go_ret2
    exact ⟨rfl, hN.trans (b1.mono hN.size)⟩
  · rw [HS.out] at hs; cases hs

theorem repeat_blank : ∀ d, Lib.repeatL (⟨#[32]⟩ : ByteArray).data.toList d = List.replicate d 32
  | 0 => rfl
  | d + 1 => by rw [Lib.repeatL, repeat_blank d]; rfl
theorem bytes_line (R L : List UInt8) : ((⟨R.toArray⟩ : ByteArray) ++ (⟨L.toArray⟩ : ByteArray) ++ (⟨#[10]⟩ : ByteArray)) = ⟨(R ++ L ++ [10]).toArray⟩ := by
  rw [bytes_cat R L]
  exact bytes_cat (R ++ L) [10]
theorem cells_text (T : List UInt8) : Lib.strCells ⟨T.toArray⟩ = Lib.byteCells T := rfl
theorem text_len (acc T : List UInt8) (h : acc.length + T.length ≤ 140737488355328) : (Lib.byteCells acc).length + (⟨T.toArray⟩ : ByteArray).size ≤ 140737488355328 := by
  rw [Lib.byteCells_length, bytes_size]
  exact h
theorem show_write0 {w : World} {n b : Nat} {bx vu vd : Value} {up dl : List Int} {acc : List UInt8} {X : World} (hS : ShowW w b n bx vu vd up dl acc X) (T : List UInt8) (hlen : acc.length + T.length ≤ 140737488355328) :
    Calls Tryd.prog 38 #[.pointer (some ⟨b, 0, none⟩), .string ⟨T.toArray⟩] X fun e w' => e = .returned (.tuple #[.int .i64 (⟨T.toArray⟩ : ByteArray).size, .nilIface]) ∧ ShowW w b n bx vu vd up dl (acc ++ T) w' ∧ Lib.OthersKept 5 (some b) X w' := by
  refine (writeString_any b b (Lib.byteCells acc) ⟨T.toArray⟩ X hS.bld (text_len acc T hlen) (Nat.le_of_lt hS.lt)).mono ?_
  rintro e w' ⟨he, hu, hb', hk⟩
  rw [cells_text] at hu
  exact ⟨he, hS.write hu hb', hk⟩
theorem line_len {acc R L : List UInt8} (hal : acc.length ≤ 2000000000000) (hR : R.length ≤ 100000) (hL : L.length ≤ 10000000) : acc.length + (R ++ L ++ [10]).length ≤ 140737488355328 := by
  rw [List.length_append, List.length_append, List.length_singleton]
  omega
theorem line_len2 {R L : List UInt8} (hR : R.length ≤ 100000) (hL : L.length ≤ 10000000) : (R ++ L ++ [10]).length ≤ 20000000 := by
  rw [List.length_append, List.length_append, List.length_singleton]
  omega
theorem show_write {w : World} {n b : Nat} {bx vu vd : Value} {up dl : List Int} {acc : List UInt8} {X : World} (hS : ShowW w b n bx vu vd up dl acc X) (R L : List UInt8) (hal : acc.length ≤ 2000000000000) (hR : R.length ≤ 100000) (hL : L.length ≤ 10000000) :
    Calls Tryd.prog 38 #[.pointer (some ⟨b, 0, none⟩), .string ((⟨R.toArray⟩ : ByteArray) ++ (⟨L.toArray⟩ : ByteArray) ++ (⟨#[10]⟩ : ByteArray))] X fun e w' => e = .returned (.tuple #[.int .i64 ((⟨R.toArray⟩ : ByteArray) ++ (⟨L.toArray⟩ : ByteArray) ++ (⟨#[10]⟩ : ByteArray)).size, .nilIface]) ∧ ShowW w b n bx vu vd up dl (acc ++ (R ++ L ++ [10])) w' ∧ Lib.OthersKept 5 (some b) X w' := by
  rw [bytes_line]
  exact show_write0 hS (R ++ L ++ [10]) (line_len hal hR hL)
theorem deep_next {up : List Int} {n i : Nat} (hi : i < n) (h0 : i ≠ 0) : (deepP up i ++ List.replicate (n - i) 0).set i ((deepP up i)[up[i]!.toNat]! + 1) = deepP up (i + 1) ++ List.replicate (n - (i + 1)) 0 := by
  rw [up_set hi (deepP_len up i), deepP, if_neg h0]
theorem deep_first {up : List Int} {n i : Nat} (hi : i < n) (h0 : i = 0) : deepP up i ++ List.replicate (n - i) 0 = deepP up (i + 1) ++ List.replicate (n - (i + 1)) 0 := by
  subst h0
  obtain ⟨m, rfl⟩ : ∃ m, n = m + 1 := ⟨n - 1, by omega⟩
  rfl
theorem deep_app {up : List Int} {n i p : Nat} (hp : p < i) : (deepP up i ++ List.replicate (n - i) 0)[p]! = (deepP up i)[p]! := by
  rw [getElem!_pos _ p (by rw [List.length_append, deepP_len]; omega), getElem!_pos _ p (by rw [deepP_len]; exact hp), List.getElem_append_left (by rw [deepP_len]; exact hp)]
set_option maxRecDepth 100000 in
set_option maxHeartbeats 16000000 in
theorem show_some (a : Option Addr) (cap : Nat) (l : List NodeP) (up : List Int) (hs : parentsP l = some up) (hl : l.length ≤ 100000) (hok : ∀ x ∈ l, NodeOk x) (hsm : ∀ x ∈ l, SmallN x) (w : World) (hT : PowT w) (hI : NodesIn w.heap.size w (.slice a l.length cap) l) :
    Calls Tryd.prog 17 #[.agg #[.slice a l.length cap], .bool false] w fun e w' => e = .returned (.tuple #[.string ⟨(showL l up).toArray⟩, .int .i64 0]) ∧ Below w.heap.size w w' := by
  have mixed : Tryd.prog.follows Departure.mixedOrders = true := rfl
  obtain ⟨i0, hi, hz0, hz1, hz2⟩ := info_parts infoInt
  have HZ2 := Lib.hid hz2
  have hN : Below w.heap.size w (w.alloc (.cells #[.slice a l.length cap] 24)) := (Below.refl _ w).alloc (Nat.le_refl _) _
  have hbx := heap_alloc_new w (.cells #[.slice a l.length cap] 24)
  have hP := parents_any a cap l hl hok _ (hI.later hN)
  have hRT := parents_right hs
  have hUO := right_ups hRT
  have hpos := hRT.pos
  have HRT := Lib.hid hRT
  have HUO := Lib.hid hUO
  have HS := Lib.hid hs
  have HI := Lib.hid hI
  have HSM := Lib.hid hsm
  have HT := Lib.hid hT
  have hsz : (w.alloc (.cells #[.slice a l.length cap] 24)).heap.size = w.heap.size + 1 := by simp
  clear hI hs hRT hUO hsm hok hT hz2
  go_enter Tryd.func17, Tryd.ntmps17
  go_wp2_with fail
  refine hP.mono ?_
  rintro e w1 ⟨(⟨hn, rfl⟩ | ⟨up', v, hs, rfl, ho⟩), b1⟩
  · rw [HS.out] at hn; cases hn
  · rw [HS.out] at hs
    injection hs with hs
    subst hs
    clear hP
    have hbx1 := (b1.block w.heap.size (by omega)).trans hbx
    have HB1 := Lib.hid (hN.trans (b1.mono hN.size))
    have ho1 : w1.ownsRow w.heap.size 3 1 v up.length (intCells up) := ownsRow_base' ho hN.size
    obtain ⟨uG, uC, rfl, -⟩ := someRow (by rw [HRT.out.len]; exact hpos) ho1
    have hc1 := cell_only hbx1
    have HO1 := Lib.hid ho1
    have HBX1 := Lib.hid hbx1
    clear ho ho1 hbx hbx1 hsz hN b1
    go_wp2_with (refine wpList_make_full _ rfl _ _ 29 rfl w.heap.size 3 i0 (.int .i64 0) 1 Tryd.underlying29 hi hz0 hz1 .i64 .i64 (l.length : Int) (l.length : Int) l.length rfl rfl rfl rfl (by rw [HZ2.out]; omega) (by unfold maxLen; omega) HB1.out.size ?_; intro w2 hD2 hg2; have HS0 := Lib.hid (show_start HBX1.out HO1.out HB1.out hD2 hg2); have hbx3 := cell_only HS0.out.box)
    clear hD2 hg2 hc1
    go_loopw [10, 11, 26] (fun _ _ iv wr => ∃ i : Nat, i ≤ l.length ∧ iv = .int .i64 i ∧ ShowW w w2.heap.size l.length (.slice a l.length cap) (.slice (some ⟨uG, 0, none⟩) up.length uC) (.slice (some ⟨w1.heap.size, 0, none⟩) l.length l.length) up (deepP up i ++ List.replicate (l.length - i) 0) (showT l up i) wr ∧ RowKit.Hid ((showT l up i).length ≤ limS i)) (fun _ _ iv _ => l.length - (RowKit.intOf iv).toNat)
    case atStart => exact ⟨0, Nat.zero_le _, rfl, by simpa [deepP, showT] using HS0.out, Nat.zero_le _⟩
    case round =>
      clear HS0 hbx3
      obtain ⟨i, hil, rfl, hW, HLM⟩ := hrel
      have HW := Lib.hid hW
      clear hW
      by_cases hlt : i < l.length
      · have hlt' : (i : Int) < (l.length : Int) := by omega
        have hb := cell_only HW.out.box
        obtain ⟨g, off, rfl, hgl, -, hc⟩ := (HI.out.below HW.out.below).at hlt
        obtain ⟨c0, c1, c2, c3, c4, c5, c6, c7, ⟨ka, kc, c8, -⟩, ⟨pa, pc, c9, -⟩⟩ := hc i hlt
        have HX : RowKit.Hid (l[i]! = l[i]) := getElem!_pos l i hlt
        have hsx := HSM.out l[i] (List.getElem_mem hlt)
        obtain ⟨-, -, -, hk1, hk18⟩ := fields_to (by have := HRT.out.flds i hlt; rw [HX.out] at this; exact this)
        clear hc
        generalize l[i] = x at *
        obtain ⟨k, hkk⟩ : ∃ k : Nat, x.kind = (k : Int) := ⟨x.kind.toNat, by omega⟩
        have hkn : k ≤ 18 := by omega
        have HLI := Lib.hid (fun X hX => line_any x ka pa kc pc k hkn hkk hsx.text hsx.link hsx.title hsx.lv0 hsx.lv1 X hX)
        have llen := lineL_len hsx (by omega)
        have hst := HW.out.lt
        have HW5 := Lib.hid (HW.out.later ((Below.refl _ wr).alloc (Nat.le_refl _) (.cells #[.int .i64 x.kind, .int .i64 x.fr, .int .i64 x.to, .int .i64 x.level, .string x.text, .string x.link, .string x.title, .bool x.tight, .slice ka x.kids.length kc, .slice pa x.pieces.length pc] 33)))
        have HN5 := Lib.hid (heap_alloc_new wr (.cells #[.int .i64 x.kind, .int .i64 x.fr, .int .i64 x.to, .int .i64 x.level, .string x.text, .string x.link, .string x.title, .bool x.tight, .slice ka x.kids.length kc, .slice pa x.pieces.length pc] 33))
        have hr0 : w.heap.size < wr.heap.size := Nat.lt_trans HW.out.nb hst
        clear hsx hk1 hk18 hkk HI HSM
        go_upto_if 32 with fail
        generalize wr.alloc (.cells #[.int .i64 x.kind, .int .i64 x.fr, .int .i64 x.to, .int .i64 x.level, .string x.text, .string x.link, .string x.title, .bool x.tight, .slice ka x.kids.length kc, .slice pa x.pieces.length pc] 33) = w5 at *
        clear c0 c1 c2 c3 c4 c5 c6 c7 c8 c9 hb
        go_cut [11] from 31 to 54 (fun v wx => v = .pointer (some ⟨wr.heap.size, 0, none⟩) ∧ ShowW w w2.heap.size l.length (.slice (some ⟨g, off, none⟩) l.length cap) (.slice (some ⟨uG, 0, none⟩) up.length uC) (.slice (some ⟨w1.heap.size, 0, none⟩) l.length l.length) up (deepP up (i + 1) ++ List.replicate (l.length - (i + 1)) 0) (showT l up i) wx ∧ wx.heap[wr.heap.size]? = some (.cells #[.int .i64 x.kind, .int .i64 x.fr, .int .i64 x.to, .int .i64 x.level, .string x.text, .string x.link, .string x.title, .bool x.tight, .slice ka x.kids.length kc, .slice pa x.pieces.length pc] 33))
        case first =>
          by_cases h0 : i = 0
          · have h0b : ¬ 0 < i := by omega
            have HD := Lib.hid (deep_first (up := up) hlt h0)
            clear h0
            go_wp2_with fail
            go_meet
            case rel => exact ⟨rfl, by rw [← HD.out]; exact HW5.out, HN5.out⟩
          · have h0b : 0 < i := by omega
            have hul : i < up.length := by rw [HRT.out.len]; exact hlt
            have hul' : (i : Int) < (up.length : Int) := by omega
            obtain ⟨hu0, hu1⟩ := HUO.out i (by omega) hul
            have hup := HW5.out.upCell hul
            obtain ⟨p, hp⟩ : ∃ p : Nat, up[i]! = (p : Int) := ⟨up[i]!.toNat, by omega⟩
            rw [hp] at hup hu1
            have hpi : p < i := by omega
            have hdp := (HW5.out.deepCell (i := p) (by omega)).1
            rw [deep_app hpi] at hdp
            obtain ⟨hd0, hd1⟩ := deepP_le HUO.out i (Nat.le_of_lt hul) p hpi
            obtain ⟨hdi, hdf⟩ := HW5.out.deepCell (i := i) hlt
            have HD : RowKit.Hid ((deepP up i ++ List.replicate (l.length - i) 0).set i ((deepP up i)[p]! + 1) = deepP up (i + 1) ++ List.replicate (l.length - (i + 1)) 0) := by
              have := deep_next (up := up) hlt h0
              rw [hp, Int.toNat_natCast] at this
              exact this
            have hpl' : (p : Int) < (l.length : Int) := by omega
            have hNW : wr.heap.size ≠ w1.heap.size := by have := HW5.out.dlow w1.heap.size rfl; omega
            have HNW := Lib.hid hNW
            have HSD := Lib.hid (HW5.out.setDeep hlt ((deepP up i)[p]! + 1))
            have HP := Lib.hid hp
            clear h0 hp hNW hu0 HLM
            generalize (deepP up i)[p]! = dp at *
            generalize (deepP up i ++ List.replicate (l.length - i) 0)[i]! = di at *
            go_wp2_with fail
            go_meet
            case rel => exact ⟨rfl, by rw [← HD.out]; exact HSD.out, by rw [Below.heap_setCell _ _ _ _ HNW.out]; exact HN5.out⟩
        case rest =>
          obtain ⟨rfl, hWc, hNc⟩ := hcut
          rename World => w6
          have hul : i < up.length := by rw [HRT.out.len]; exact hlt
          obtain ⟨hd0, hd1⟩ := deepP_le HUO.out (i + 1) hul i (Nat.lt_succ_self _)
          have hdc := (hWc.deepCell (i := i) hlt).1
          rw [deep_app (Nat.lt_succ_self _)] at hdc
          obtain ⟨d, hd⟩ : ∃ d : Nat, (deepP up (i + 1))[i]! = (d : Int) := ⟨(deepP up (i + 1))[i]!.toNat, by omega⟩
          rw [hd] at hdc hd1
          have HSTP : RowKit.Hid (showT l up (i + 1) = showT l up i ++ (List.replicate d 32 ++ lineL x ++ [10])) := by
            show _ = _
            rw [showT, hd, HX.out, Int.toNat_natCast]
          have hdn : d ≤ 100000 := by omega
          have HWC := Lib.hid hWc
          have HRP := Lib.hid (fun X => Tryd.strings_Repeat ⟨#[32]⟩ d X (by omega) (by show 1 * d ≤ _; omega))
          have HSF : RowKit.Hid (∀ X, Below w6.heap.size w6 X → X.cell? ⟨w1.heap.size, i, none⟩ = some (.int .i64 d) ∧ X.cell? ⟨wr.heap.size, 0, none⟩ = some (.int .i64 x.kind) ∧ X.cell? ⟨wr.heap.size, 1, none⟩ = some (.int .i64 x.fr) ∧ X.cell? ⟨wr.heap.size, 2, none⟩ = some (.int .i64 x.to) ∧ X.cell? ⟨wr.heap.size, 3, none⟩ = some (.int .i64 x.level) ∧ X.cell? ⟨wr.heap.size, 4, none⟩ = some (.string x.text) ∧ X.cell? ⟨wr.heap.size, 5, none⟩ = some (.string x.link) ∧ X.cell? ⟨wr.heap.size, 6, none⟩ = some (.string x.title) ∧ X.cell? ⟨wr.heap.size, 7, none⟩ = some (.bool x.tight) ∧ X.cell? ⟨wr.heap.size, 8, none⟩ = some (.slice ka x.kids.length kc) ∧ X.cell? ⟨wr.heap.size, 9, none⟩ = some (.slice pa x.pieces.length pc)) := fun X h =>
            ⟨(h.cell (p := ⟨w1.heap.size, i, none⟩) (by have := HWC.out.dlow w1.heap.size rfl; have := HWC.out.lt; show w1.heap.size < w6.heap.size; omega)).trans hdc, cells_ten ((h.block _ (Array.getElem?_eq_some_iff.1 hNc).1).trans hNc)⟩
          have HTX : RowKit.Hid (∀ X, Below w6.heap.size w6 X → PowT X) := fun X h => (HT.out.below HWC.out.below).below h
          have hW6 : Below w6.heap.size w6 w6.drew := (Below.refl _ w6).drew
          have hrl : (List.replicate d (32 : UInt8)).length ≤ 100000 := by simp; omega
          have hRP := HRP.out
          rw [repeat_blank] at hRP
          have HRQ := Lib.hid hRP
          have HDV := Lib.hid hd
          have HNC := Lib.hid hNc
          have HNB2 : RowKit.Hid (some wr.heap.size ≠ some w2.heap.size) := fun e => by injection e with e; omega
          have hal := limS_le HLM.out (Nat.le_of_lt (by omega : i < 100000))
          obtain ⟨e0, e1, e2, e3, e4, e5, e6, e7, e8, e9, e10⟩ := HSF.out w6 (Below.refl _ _)
          clear hWc hNc hd0 hd1 hd HT HUO hdc HX hRP HRP
          generalize List.replicate d (32 : UInt8) = R at *
          generalize lineL x = L at *
          generalize showT l up i = acc at *
          have HWR : RowKit.Hid (∀ X, Below w6.heap.size w6 X → Calls Tryd.prog 38 #[.pointer (some ⟨w2.heap.size, 0, none⟩), .string ((⟨R.toArray⟩ : ByteArray) ++ (⟨L.toArray⟩ : ByteArray) ++ (⟨#[10]⟩ : ByteArray))] X fun e w' => e = .returned (.tuple #[.int .i64 ((⟨R.toArray⟩ : ByteArray) ++ (⟨L.toArray⟩ : ByteArray) ++ (⟨#[10]⟩ : ByteArray)).size, .nilIface]) ∧ RowKit.Hid (ShowW w w2.heap.size l.length (.slice (some ⟨g, off, none⟩) l.length cap) (.slice (some ⟨uG, 0, none⟩) up.length uC) (.slice (some ⟨w1.heap.size, 0, none⟩) l.length l.length) up (deepP up (i + 1) ++ List.replicate (l.length - (i + 1)) 0) (acc ++ (R ++ L ++ [10])) w') ∧ RowKit.Hid (w'.cell? ⟨w1.heap.size, i, none⟩ = some (.int .i64 d) ∧ w'.cell? ⟨wr.heap.size, 0, none⟩ = some (.int .i64 x.kind) ∧ w'.cell? ⟨wr.heap.size, 1, none⟩ = some (.int .i64 x.fr) ∧ w'.cell? ⟨wr.heap.size, 2, none⟩ = some (.int .i64 x.to) ∧ w'.cell? ⟨wr.heap.size, 3, none⟩ = some (.int .i64 x.level) ∧ w'.cell? ⟨wr.heap.size, 4, none⟩ = some (.string x.text) ∧ w'.cell? ⟨wr.heap.size, 5, none⟩ = some (.string x.link) ∧ w'.cell? ⟨wr.heap.size, 6, none⟩ = some (.string x.title) ∧ w'.cell? ⟨wr.heap.size, 7, none⟩ = some (.bool x.tight) ∧ w'.cell? ⟨wr.heap.size, 8, none⟩ = some (.slice ka x.kids.length kc) ∧ w'.cell? ⟨wr.heap.size, 9, none⟩ = some (.slice pa x.pieces.length pc))) := fun X hX =>
            (show_write (HWC.out.later hX) R L hal hrl llen).mono fun e w' ⟨h1, h2, h3⟩ => ⟨h1, h2, (by rw [← HDV.out, ← deep_app (n := l.length) (Nat.lt_succ_self i)]; exact (h2.deepCell hlt).1), cells_ten (h3 _ _ ((hX.block _ (Array.getElem?_eq_some_iff.1 HNC.out).1).trans HNC.out) HNB2.out (fun c fz e => by cases e))⟩
          have HLM2 : RowKit.Hid ((acc ++ (R ++ L ++ [10])).length ≤ limS (i + 1)) := by
            show _ ≤ _
            rw [List.length_append]
            exact limS_step HLM.out (line_len2 hrl llen)
          have hd0 : (0 : Int) ≤ (d : Int) := by omega
          clear HLM
          go_wp2_with fail
          go_region_held (fun X => X.cell? ⟨w1.heap.size, i, none⟩ = some (.int .i64 d) ∧ X.cell? ⟨wr.heap.size, 0, none⟩ = some (.int .i64 x.kind) ∧ X.cell? ⟨wr.heap.size, 1, none⟩ = some (.int .i64 x.fr) ∧ X.cell? ⟨wr.heap.size, 2, none⟩ = some (.int .i64 x.to) ∧ X.cell? ⟨wr.heap.size, 3, none⟩ = some (.int .i64 x.level) ∧ X.cell? ⟨wr.heap.size, 4, none⟩ = some (.string x.text) ∧ X.cell? ⟨wr.heap.size, 5, none⟩ = some (.string x.link) ∧ X.cell? ⟨wr.heap.size, 6, none⟩ = some (.string x.title) ∧ X.cell? ⟨wr.heap.size, 7, none⟩ = some (.bool x.tight) ∧ X.cell? ⟨wr.heap.size, 8, none⟩ = some (.slice ka x.kids.length kc) ∧ X.cell? ⟨wr.heap.size, 9, none⟩ = some (.slice pa x.pieces.length pc))
            (first | with_reducible exact HSS.out | with_reducible exact HSF.out _ hBL2 | with_reducible exact HSF.out _ hBR2 | with_reducible exact HSF.out _ hBL | with_reducible exact HSF.out _ hBR | with_reducible exact HSF.out _ hW6)
            (first
              | (go_at_call 39; (with_reducible refine (HRQ.out _).mono ?_); rintro e wR ⟨rfl, bR⟩; (first | (have hBR2 : Below w6.heap.size w6 wR := hBL.trans (bR.mono hBL.size)) | (have hBR : Below w6.heap.size w6 wR := hW6.trans (bR.mono hW6.size))))
              | (go_at_call 40; (with_reducible refine (HLI.out _ (HTX.out _ hBR)).mono ?_); rintro e wL ⟨rfl, bL⟩; have hBL2 : Below w6.heap.size w6 wL := hBR.trans (bL.mono hBR.size))
              | (go_at_call 40; (with_reducible refine (HLI.out _ (HTX.out _ hW6)).mono ?_); rintro e wL ⟨rfl, bL⟩; have hBL : Below w6.heap.size w6 wL := hW6.trans (bL.mono hW6.size))
              | (go_at_call 38; (with_reducible refine (HWR.out _ hBL2).mono ?_); rintro e wS ⟨rfl, HWS, HSS⟩)
              | (go_at_call 38; (with_reducible refine (HWR.out _ hBR2).mono ?_); rintro e wS ⟨rfl, HWS, HSS⟩))
          all_goals
            go_wp2_with fail
            go_roundw
            case rel => exact ⟨i + 1, by omega, by go_num, by rw [HSTP.out]; exact HWS.out, by rw [HSTP.out]; exact HLM2.out⟩
            case measure => simp [RowKit.intOf]; omega
      · obtain rfl : i = l.length := by omega
        have hB := HW.out.bld
        have hst := HW.out.lt
        have HWB := Lib.hid HW.out.below
        have hnb : w.heap.size ≤ w2.heap.size := Nat.le_of_lt HW.out.nb
        have HSH : RowKit.Hid (showL l up = showT l up l.length) := rfl
        clear HI
        generalize showT l up l.length = acc at *
        go_wp2_with fail
        refine (Tryd.Builder_String_any_k w2.heap.size w2.heap.size acc _ hB (Nat.le_of_lt hst)).mono ?_
        rintro e W1 ⟨rfl, _, b1, _⟩
        go_wp2_with fail
        go_ret2
        exact ⟨by rw [HSH.out]; rfl, HWB.out.trans (b1.mono hnb)⟩
end Go.Proofs.YtlebikmiophghaaDoor
