/-
  The document's answer for emphasis: solve. Conditions: bounds on sizes.
-/
import Derived.Test.YtnijcglmfpiheaaEmphRefW
import Derived.BigQuiet
import Derived.BigRegion
set_option linter.unusedSimpArgs false
set_option linter.unusedVariables false
namespace Go.Proofs.Ytnijcglmfpiheaa
open Go.RowKit Go.Lib

theorem infoBool : (Try.prog.info? 4).map (fun i => (i.zero, i.size, i.bytes)) = some (some (.bool false), 1, 1) := by kernel_rfl
def cellN (g c : Nat) (w : World) : Nat := match w.cell? ⟨g, c, none⟩ with | some (.int _ x) => x.toNat | _ => 0
theorem cellN_of {g c : Nat} {w : World} {x : Int} (h : w.cell? ⟨g, c, none⟩ = some (.int .i64 x)) : cellN g c w = x.toNat := by unfold cellN; rw [h]
theorem refStart (w : World) (n : Nat) (l : List RunP) (hn : n = l.length) {w3 : World} (hD : w3.ownsRow w.heap.size 4 1 (.slice (some ⟨w.heap.size + 1 + 1, 0, none⟩) n n) n (madeCells (Value.bool false).cells (n * 1)).toList) (hg : ((w.alloc (.cells #[] 40)).alloc (.cells #[] 3)).grownBy w3 none) :
    RefW w.heap.size w [] [] (List.replicate n false) (.slice (some ⟨w.heap.size, 0, none⟩) 0 0) (.slice (some ⟨w.heap.size + 1, 0, none⟩) 0 0) (.slice (some ⟨w.heap.size + 1 + 1, 0, none⟩) n n) w3 := by
  have h1 : (w.alloc (.cells #[] 40)).ownsRow w.heap.size 40 3 (.slice (some ⟨w.heap.size, 0, none⟩) 0 0) 0 [] := ⟨rfl, .inr ⟨w.heap.size, 0, #[], rfl, Nat.le_refl _, heap_alloc_new w _, Nat.le_refl _, by decide, rfl, rfl⟩⟩
  have h2 : ((w.alloc (.cells #[] 40)).alloc (.cells #[] 3)).ownsRow w.heap.size 3 1 (.slice (some ⟨w.heap.size + 1, 0, none⟩) 0 0) 0 [] := ⟨rfl, .inr ⟨w.heap.size + 1, 0, #[], rfl, Nat.le_succ _, by have := heap_alloc_new (w.alloc (.cells #[] 40)) (.cells #[] 3); simpa using this, Nat.le_refl _, by decide, rfl, rfl⟩⟩
  have hb : Below w.heap.size w ((w.alloc (.cells #[] 40)).alloc (.cells #[] 3)) := ((Below.refl _ w).alloc (Nat.le_refl _) _).alloc (by simp) _
  refine ⟨(h1.alloc _).kept hg (.inr (by simp [Value.ownBlock])), h2.kept hg (.inr (by simp [Value.ownBlock])), ?_, below_grow hb hg (by simp; omega) (fun g e => by cases e)⟩
  rw [List.length_replicate, ← boolCells_made]
  rw [Nat.mul_one] at hD
  exact hD
theorem RefW.lv_eq {N : Nat} {w : World} {P : List PairP} {L : List Int} {D : List Bool} {pv lv dv : Value} {wr : World} {n : Nat} (h : RefW N w P L D pv lv dv wr) (hn : L.length = n) : ∃ a c, lv = .slice a n c := by
  subst hn
  obtain ⟨a, c, e, -⟩ := ownsRow_slice h.left
  exact ⟨a, c, e⟩
theorem RefW.pv_eq {N : Nat} {w : World} {P : List PairP} {L : List Int} {D : List Bool} {pv lv dv : Value} {wr : World} (h : RefW N w P L D pv lv dv wr) : ∃ a c, pv = .slice a P.length c := by
  obtain ⟨a, c, e, -⟩ := ownsRow_slice h.pairs
  exact ⟨a, c, e⟩
theorem RefW.la_some {N : Nat} {w : World} {P : List PairP} {L : List Int} {D : List Bool} {pv dv : Value} {a : Option Addr} {n c : Nat} {wr : World} (h : RefW N w P L D pv (.slice a n c) dv wr) (hn : 0 < L.length) : ∃ g, a = some ⟨g, 0, none⟩ := by
  obtain ⟨g, cap, e⟩ := someRow hn h.left
  injection e with e
  exact ⟨g, e⟩
theorem RefW.pushInt {N : Nat} {w : World} {P : List PairP} {s : Int} {L : List Int} {D : List Bool} {pv lv dv v5 : Value} {wr wX w5 : World} {n : Nat} (h : RefW N w P L D pv lv dv wr) (hb : Below wr.heap.size wr wX) (hN : N ≤ wr.heap.size) (hn : L.length = n) (h5 : w5.ownsRow N 3 1 v5 (n + 1) (intCells L ++ [.int .i64 s])) (hg : wX.grownBy w5 lv.ownBlock) : RefW N w P (L ++ [s]) D pv v5 dv w5 := by
  subst hn
  have hX := h.later hb hN
  have ht := ownsRow_typed hX.left
  exact ⟨ownsRow_unlike hX.pairs hg (by decide) ht, by rw [List.length_append, intCells_snoc]; exact h5, ownsRow_unlike hX.dead hg (by decide) ht, below_grow hX.below hg (Nat.le_trans hN hb.size) fun g e => ownsRow_base hX.left e⟩

set_option maxRecDepth 100000 in
set_option maxHeartbeats 16000000 in
theorem refSolve_any (a : Option Addr) (cap : Nat) (l : List RunP) (hl : l.length ≤ 1000000) (w : World) (hI : RunsIn w.heap.size w (.slice a l.length cap) l) :
    Calls Try.prog 36 #[.slice a l.length cap] w fun e w' => (∃ vp vl, e = .returned (.tuple #[vp, vl]) ∧ w'.ownsRow w.heap.size 40 3 vp (solveP l).pairs.length (pairCells (solveP l).pairs) ∧ w'.ownsRow w.heap.size 3 1 vl (solveP l).left.length (intCells (solveP l).left)) ∧ Below w.heap.size w w' := by
  have mixed : Try.prog.follows Departure.mixedOrders = true := rfl
  obtain ⟨i0, hi, hz0, hz1, hz2⟩ := info_parts infoPair
  obtain ⟨i1, hj, hy0, hy1, hy2⟩ := info_parts infoInt
  obtain ⟨i2, hk, hx0, hx1, hx2⟩ := info_parts infoBool
  have HI := Lib.hid hI
  have HX2 := Lib.hid hx2
  clear hI hx2
  go_enter Try.func36, Try.ntmps36
  go_wp2_with (refine wpList_make_full _ rfl _ _ 81 rfl w.heap.size 4 i2 (.bool false) 1 Try.underlying81 hk hx0 hx1 .i64 .i64 (l.length : Int) (l.length : Int) l.length rfl rfl rfl rfl (by rw [HX2.out]; omega) (by unfold maxLen; omega) (by simp; omega) ?_; intro w3 hD3 hg3)
  have HS0 : RowKit.Hid (RefW w.heap.size w [] [] (List.replicate l.length false) (.slice (some ⟨w.heap.size, 0, none⟩) 0 0) (.slice (some ⟨w.heap.size + 1, 0, none⟩) 0 0) (.slice (some ⟨w.heap.size + 1 + 1, 0, none⟩) l.length l.length) w3) := refStart w l.length l rfl (by simpa using hD3) hg3
  clear hD3 hg3 hk hx0 hx1 HX2
  go_loopw [5, 7, 8] (fun lv iv _ wr => ∃ k : Nat, k ≤ l.length ∧ iv = .int .i64 k ∧ RefW w.heap.size w [] ((l.take k).map startL) (List.replicate l.length false) (.slice (some ⟨w.heap.size, 0, none⟩) 0 0) lv (.slice (some ⟨w.heap.size + 1 + 1, 0, none⟩) l.length l.length) wr) (fun _ iv _ _ => l.length - (RowKit.intOf iv).toNat)
  case atStart => exact ⟨0, Nat.zero_le _, rfl, HS0.out⟩
  case round =>
    clear HS0
    obtain ⟨k, hk, rfl, hR⟩ := hrel
    have hzw := hR.below.size
    have HR := Lib.hid hR
    clear hR
    have HLK : RowKit.Hid (((l.take k).map startL).length = k) := by show _ = _; simp; omega
    by_cases hlt : k < l.length
    · have hlt' : (k : Int) < (l.length : Int) := by omega
      obtain ⟨g, off, rfl, hgl, -, hc⟩ := (HI.out.below HR.out.below).at hlt
      obtain ⟨-, h1, -, -⟩ := hc k hlt
      have HST : RowKit.Hid ((l.take (k + 1)).map startL = (l.take k).map startL ++ [startL l[k]]) := by
        show _ = _
        rw [List.take_succ_eq_append_getElem hlt, List.map_append]; rfl
      have HSL : RowKit.Hid (startL l[k] = if l[k].n < 1 ∨ 1048576 < l[k].n then 0 else l[k].n) := rfl
      clear hc
      generalize l[k].n = rn at *
      generalize startL l[k] = sn at *
      generalize hLL : (l.take k).map startL = L at *
      clear hLL
      obtain ⟨la, lc, rfl, -⟩ := ownsRow_slice HR.out.left
      have hLL : L.length ≤ 1000000 := by have := HLK.out; omega
      have hown := HR.out.left
      have hpart : rn < 1 ∨ ¬ rn < 1 ∧ 1048576 < rn ∨ ¬ rn < 1 ∧ ¬ 1048576 < rn := by omega
      rcases hpart with h2 | ⟨h2, h3⟩ | ⟨h2, h3⟩
      · have HE : RowKit.Hid (sn = 0) := by show _ = _; rw [HSL.out, if_pos (by omega)]
        go_wp2_with (at_builtin; refine wpList_append_own_at _ rfl _ _ 36 rfl w.heap.size 3 i1 (.int .i64 0) 1 8 Try.underlying36 hj hy0 hy1 hy2 rfl (by decide) _ _ _ rfl (hown.alloc _) ⟨wr.heap.size, 0, none⟩ 1 1 [.int .i64 0] rfl rfl (new_one _ _ _) (by simp [Value.oneCell']) (by unfold maxLen; omega) (by omega) (by simp; omega) ?_; intro v5 w5 hR5 hg5 _ _; obtain ⟨a5, c5, rfl, -⟩ := ownsRow_slice hR5)
        have hK := RefW.pushInt (s := 0) HR.out ((Below.refl _ wr).alloc (Nat.le_refl _) _) hzw rfl hR5 hg5
        go_roundw
        case rel => exact ⟨k + 1, by omega, by go_num, by rw [HST.out, HE.out]; exact hK⟩
        case measure => simp [RowKit.intOf]; omega
      · have HE : RowKit.Hid (sn = 0) := by show _ = _; rw [HSL.out, if_pos (by omega)]
        go_wp2_with (at_builtin; refine wpList_append_own_at _ rfl _ _ 36 rfl w.heap.size 3 i1 (.int .i64 0) 1 8 Try.underlying36 hj hy0 hy1 hy2 rfl (by decide) _ _ _ rfl (hown.alloc _) ⟨wr.heap.size, 0, none⟩ 1 1 [.int .i64 0] rfl rfl (new_one _ _ _) (by simp [Value.oneCell']) (by unfold maxLen; omega) (by omega) (by simp; omega) ?_; intro v5 w5 hR5 hg5 _ _; obtain ⟨a5, c5, rfl, -⟩ := ownsRow_slice hR5)
        have hK := RefW.pushInt (s := 0) HR.out ((Below.refl _ wr).alloc (Nat.le_refl _) _) hzw rfl hR5 hg5
        go_roundw
        case rel => exact ⟨k + 1, by omega, by go_num, by rw [HST.out, HE.out]; exact hK⟩
        case measure => simp [RowKit.intOf]; omega
      · have HE : RowKit.Hid (sn = rn) := by show _ = _; rw [HSL.out, if_neg (by omega)]
        go_wp2_with (at_builtin; refine wpList_append_own_at _ rfl _ _ 36 rfl w.heap.size 3 i1 (.int .i64 0) 1 8 Try.underlying36 hj hy0 hy1 hy2 rfl (by decide) _ _ _ rfl (hown.alloc _) ⟨wr.heap.size, 0, none⟩ 1 1 [.int .i64 rn] rfl rfl (new_one _ _ _) (by simp [Value.oneCell']) (by unfold maxLen; omega) (by omega) (by simp; omega) ?_; intro v5 w5 hR5 hg5 _ _; obtain ⟨a5, c5, rfl, -⟩ := ownsRow_slice hR5)
        have hK := RefW.pushInt (s := rn) HR.out ((Below.refl _ wr).alloc (Nat.le_refl _) _) hzw rfl hR5 hg5
        go_roundw
        case rel => exact ⟨k + 1, by omega, by go_num, by rw [HST.out, HE.out]; exact hK⟩
        case measure => simp [RowKit.intOf]; omega
    · obtain rfl : k = l.length := by omega
      obtain ⟨la, lc, rfl⟩ := RefW.lv_eq HR.out HLK.out
      have hR2 : RefW w.heap.size w (goP l 0).pairs (goP l 0).left (List.replicate l.length false) (.slice (some ⟨w.heap.size, 0, none⟩) 0 0) (.slice la l.length lc) (.slice (some ⟨w.heap.size + 1 + 1, 0, none⟩) l.length l.length) wr := by
        have := HR.out
        rw [List.take_length] at this
        exact this
      have HR2 := Lib.hid hR2
      clear hR2 HR HLK hzw
      rename World => wo
      go_wp2_with fail
      go_loopw [4, 9, 10, 11, 12] (fun pv cv _ _ _ wr => ∃ (c : Nat) (dead : List Bool), c ≤ l.length ∧ cv = .int .i64 c ∧ RefW w.heap.size w (goP l c).pairs (goP l c).left dead pv (.slice la l.length lc) (.slice (some ⟨w.heap.size + 1 + 1, 0, none⟩) l.length l.length) wr ∧ RowKit.Hid (RefI l c (goP l c) dead)) (fun _ cv _ _ _ _ => l.length - (RowKit.intOf cv).toNat)
      case atStart => exact ⟨0, _, Nat.zero_le _, rfl, HR2.out, refI_start l⟩
      case round =>
        clear HR2
        obtain ⟨c, dead, hc, rfl, hR, HRI⟩ := hrel
        have HR := Lib.hid hR
        by_cases hcl : c < l.length
        · have hcl' : (c : Int) < (l.length : Int) := by omega
          have HGO := Lib.hid (goP_good l c hc)
          have HLN : RowKit.Hid (∀ t : StP, GoodP l c t → t.left.length = l.length) := fun t h => h.len
          have HTU : RowKit.Hid (∀ (t : StP) (dead' : List Bool), GoodP l c t → RefI l c t dead' → clP l c t = clP l c (goP l c) → t = clP l c t → (goP l (c + 1)).pairs = t.pairs ∧ (goP l (c + 1)).left = t.left ∧ RefI l (c + 1) (goP l (c + 1)) dead') := fun t dead' g r e1 e2 => refI_turn hcl g r (e2.trans e1)
          obtain ⟨gL, rfl⟩ := RefW.la_some HR.out (show 0 < (goP l c).left.length by rw [HGO.out.len]; omega)
          obtain ⟨g, off, rfl, hgl, -, hcs⟩ := HI.out.at hcl
          have HRD : RowKit.Hid (∀ X, Below w.heap.size w X → ∀ j (h : j < l.length), X.cell? ⟨g, off + j * 4, none⟩ = some (.int .u8 l[j].mark) ∧ X.cell? ⟨g, off + j * 4 + 1, none⟩ = some (.int .i64 l[j].n) ∧ X.cell? ⟨g, off + j * 4 + 2, none⟩ = some (.bool l[j].op) ∧ X.cell? ⟨g, off + j * 4 + 3, none⟩ = some (.bool l[j].cl)) := fun X h j hj => by
            obtain ⟨c0, c1, c2, c3⟩ := hcs j hj
            exact ⟨(h.cell (p := ⟨g, _, none⟩) hgl).trans c0, (h.cell (p := ⟨g, _, none⟩) hgl).trans c1, (h.cell (p := ⟨g, _, none⟩) hgl).trans c2, (h.cell (p := ⟨g, _, none⟩) hgl).trans c3⟩
          have HBG : RowKit.Hid (l[c]! = l[c]) := getElem!_pos l c hcl
          clear hcs hR
          rename World => w2
          go_wp2_with fail
          go_loopw [4, 10, 11, 12] (fun pv _ _ _ wr => ∃ (t : StP) (dead' : List Bool), RefW w.heap.size w t.pairs t.left dead' pv (.slice (some ⟨gL, 0, none⟩) l.length lc) (.slice (some ⟨w.heap.size + 1 + 1, 0, none⟩) l.length l.length) wr ∧ RowKit.Hid (RefI l c t dead') ∧ RowKit.Hid (GoodP l c t) ∧ RowKit.Hid (clP l c t = clP l c (goP l c)) ∧ t.pairs.length + t.left[c]!.toNat ≤ 2000000000000) (fun _ _ _ _ wr => cellN gL c wr)
          case atStart =>
            refine ⟨goP l c, dead, HR.out, HRI, HGO, rfl, ?_⟩
            have h1 := goP_pairs l c hc
            have h2 := HGO.out.high _ (nth_mem (show c < (goP l c).left.length by rw [HGO.out.len]; omega))
            omega
          case round =>
            clear HR HRI HGO
            obtain ⟨t, dead', hR, HRI, HG, HC, hpb⟩ := hrel
            rename World => w3
            have hLl := HG.out.len
            have hDl := HRI.out.len
            have hlc := (hR.leftCell (show c < t.left.length by omega)).1
            have hdc := (hR.deadCell (show c < dead'.length by omega)).1
            rw [HRI.out.live c (Nat.le_refl _) hcl] at hdc
            obtain ⟨-, -, -, r3⟩ := HRD.out _ hR.below c hcl
            have HR := Lib.hid hR
            have HLL := Lib.hid hLl
            have HDL := Lib.hid hDl
            have HEX : RowKit.Hid (t = clP l c t → (goP l (c + 1)).pairs = t.pairs ∧ (goP l (c + 1)).left = t.left ∧ RefI l (c + 1) (goP l (c + 1)) dead') := fun e => HTU.out t dead' HG.out HRI.out HC.out e
            have HME : RowKit.Hid (cellN gL c w3 = t.left[c]!.toNat) := cellN_of hlc
            clear hR hLl hDl
            have hzN : w.heap.size ≤ w3.heap.size := HR.out.below.size
            cases hcc : l[c].cl
            · rw [hcc] at r3
              have HE := Lib.hid (HEX.out (by unfold clP; rw [HBG.out, hcc]; rfl))
              clear HEX HTU HRD HI
              generalize t.left[c]! = lft at *
              go_wp2_with fail
              go_roundw
              case rel => exact ⟨c + 1, dead', by omega, by go_num, by rw [HE.out.1, HE.out.2.1]; exact HR.out, HE.out.2.2⟩
              case measure => simp [RowKit.intOf]; omega
            · rw [hcc] at r3
              by_cases h0 : 0 < t.left[c]!
              · have h0' : t.left[c]! > 0 := h0
                have H0 := Lib.hid h0
                have HCN : RowKit.Hid (openP l c t = none → (goP l (c + 1)).pairs = t.pairs ∧ (goP l (c + 1)).left = t.left ∧ RefI l (c + 1) (goP l (c + 1)) dead') := fun e => HEX.out (by unfold clP; rw [HBG.out, hcc, if_pos rfl, closeP_none e])
                have HNO : RowKit.Hid ((∀ k, k < c → refGoes l c t.left dead' k = false) → openP l c t = none) := fun h => refGoes_none HG.out HRI.out (by omega) h
                have HYE : RowKit.Hid (∀ m, m < c → refGoes l c t.left dead' m = true → (∀ k, m < k → k < c → refGoes l c t.left dead' k = false) → ∃ i, GoodP l c (pairP c i t) ∧ RefI l c (pairP c i t) (killP m c dead') ∧ clP l c (pairP c i t) = clP l c (goP l c) ∧ (pairP c i t).left = (t.left.set m (t.left[m]! - takeN t.left[m]! t.left[c]!)).set c (t.left[c]! - takeN t.left[m]! t.left[c]!) ∧ (pairP c i t).pairs = t.pairs ++ [⟨m, c, takeN t.left[m]! t.left[c]!⟩] ∧ (pairP c i t).left[c]! < t.left[c]! ∧ 0 < t.left[m]!) := fun m hm hgo hno => by
                  obtain ⟨i, h1, h2, h3⟩ := refGoes_some HG.out HRI.out (by omega) hm hgo hno
                  obtain ⟨k1, k2, k3, k4, k5, k6, k7, -⟩ := ref_round HG.out HRI.out hcl (by rw [HBG.out]; exact hcc) H0.out h1 h2 h3
                  exact ⟨i, k1, k2, k3.trans HC.out, k4, k5, k6, k7⟩
                have HGO : RowKit.Hid (∀ m (h : m < l.length), refGoes l c t.left dead' m = (l[m].op && !dead'[m]! && (l[m].mark == l[c].mark) && !(t.left[m]! == 0) && fitsR l[m] l[c])) := fun m h => by
                  unfold refGoes; rw [HBG.out, getElem!_pos l m h]
                clear HEX HTU
                generalize hlft : t.left[c]! = lft at *
                have HLC := Lib.hid hlft
                clear hlft
                go_wp2_with fail
                go_loopw [10] (fun ov wr => ∃ j : Nat, j ≤ c ∧ ov = .int .i64 ((j : Int) - 1) ∧ Below w3.heap.size w3 wr ∧ RowKit.Hid (∀ k, j ≤ k → k < c → refGoes l c t.left dead' k = false)) (fun ov _ => (RowKit.intOf ov + 1).toNat)
                case atStart => exact ⟨c, Nat.le_refl _, rfl, Below.refl _ _, fun k h1 h2 => by omega⟩
                case round =>
                  clear hlc hdc r3
                  obtain ⟨j, hjc, rfl, hb, HN⟩ := hrel
                  rename World => w4
                  have HB := Lib.hid hb
                  have HR4 := Lib.hid (HR.out.later hb hzN)
                  have hz4 : w.heap.size ≤ w4.heap.size := HR4.out.below.size
                  clear hb
                  by_cases hj0 : j = 0
                  · subst hj0
                    have HE := Lib.hid (HCN.out (HNO.out fun k hk => HN.out k (Nat.zero_le _) hk))
                    clear HCN HNO HYE HGO HN HRD HI
                    rw [show ((0 : Nat) : Int) - 1 = -1 from rfl]
                    go_wp2_with fail
                    go_quiet (fail)
                    go_wp2_with fail
                    go_roundw
                    case rel => exact ⟨c + 1, dead', by omega, by go_num, by rw [HE.out.1, HE.out.2.1]; exact HR4.out.later (below_drewN (Below.refl _ w4)) hz4, HE.out.2.2⟩
                    case measure => simp [RowKit.intOf]; omega
                  · obtain ⟨m, rfl⟩ : ∃ m, j = m + 1 := ⟨j - 1, by omega⟩
                    rw [show ((m + 1 : Nat) : Int) - 1 = (m : Int) by omega]
                    have hml : m < l.length := by omega
                    have hm0 : (0 : Int) ≤ (m : Int) := by omega
                    have hml' : (m : Int) < (l.length : Int) := by omega
                    obtain ⟨m0, m1, m2, m3⟩ := HRD.out w4 HR4.out.below m hml
                    obtain ⟨r0, r1, r2, r3⟩ := HRD.out w4 HR4.out.below c hcl
                    have hlm := (HR4.out.leftCell (show m < t.left.length by rw [HLL.out]; omega)).1
                    have hlc := (HR4.out.leftCell (show c < t.left.length by rw [HLL.out]; omega)).1
                    have hdm := (HR4.out.deadCell (show m < dead'.length by rw [HDL.out]; omega)).1
                    rw [HLC.out] at hlc
                    have hgo := HGO.out m hml
                    have HGF : RowKit.Hid (refGoes l c t.left dead' m = false → ∀ k, m ≤ k → k < c → refGoes l c t.left dead' k = false) := fun h k h1 h2 => by
                      rcases Nat.lt_or_ge m k with h3 | h3
                      · exact HN.out k (by omega) h2
                      · obtain rfl : k = m := by omega
                        exact h
                    have HGT : RowKit.Hid (refGoes l c t.left dead' m = true → ∃ i, GoodP l c (pairP c i t) ∧ RefI l c (pairP c i t) (killP m c dead') ∧ clP l c (pairP c i t) = clP l c (goP l c) ∧ (pairP c i t).left = (t.left.set m (t.left[m]! - takeN t.left[m]! lft)).set c (lft - takeN t.left[m]! lft) ∧ (pairP c i t).pairs = t.pairs ++ [⟨m, c, takeN t.left[m]! lft⟩] ∧ (pairP c i t).left[c]! < lft ∧ 0 < t.left[m]!) := fun h => HYE.out m (by omega) h fun k h1 h2 => HN.out k (by omega) h2
                    clear HCN HNO HYE HGO HN HRD HI
                    generalize hlm' : t.left[m]! = lm at *
                    have HLM := Lib.hid hlm'
                    generalize dead'[m]! = dm at *
                    generalize l[m] = rm at *
                    generalize l[c] = rc at *
                    clear hlm'
                    obtain ⟨om, on', oo, oc⟩ := rm
                    obtain ⟨cm, cn, co, ccl⟩ := rc
                    dsimp only at m0 m1 m2 m3 r0 r1 r2 r3 hgo hcc
                    subst hcc
                    cases oo
                    · simp only [Bool.false_and] at hgo
                      clear HGT
                      go_wp2_with fail
                      go_quiet (fail)
                      go_wp2_with fail
                      go_roundw
                      case rel => exact ⟨m, by omega, rfl, below_drewN HB.out, HGF.out hgo⟩
                      case measure => simp [RowKit.intOf]
                    · cases dm
                      · simp only [Bool.true_and, Bool.not_false] at hgo
                        cases hmk : (om == cm)
                        · rw [hmk] at hgo
                          simp only [Bool.false_and] at hgo
                          have hmk2 : (om != cm) = true := by simp only [bne, hmk, Bool.not_false]
                          clear HGT
                          go_wp2_with fail
                          go_quiet (fail)
                          go_wp2_with fail
                          go_roundw
                          case rel => exact ⟨m, by omega, rfl, below_drewN HB.out, HGF.out hgo⟩
                          case measure => simp [RowKit.intOf]
                        · obtain rfl : om = cm := eq_of_beq hmk
                          clear hmk
                          simp only [beq_self_eq_true, Bool.true_and] at hgo
                          cases hlz : (lm == 0)
                          · rw [hlz] at hgo
                            simp only [Bool.true_and, Bool.not_false] at hgo
                            go_wp2_with fail
                            go_still_tail 44, (by kernel_rfl)
                            change wpList _ _ _ _ _ w4.drew
                            have HB5 : RowKit.Hid (Below w3.heap.size w3 w4.drew) := HB.out.drew
                            have HR5 := Lib.hid (HR4.out.later (Below.refl _ w4).drew hz4)
                            have hz5 : w.heap.size ≤ w4.drew.heap.size := hz4
                            generalize w4.drew = w5 at *
                            go_wp2_with fail
                            refine (fitsRef_any ⟨om, on', true, oc⟩ ⟨om, cn, co, true⟩ w5).mono ?_
                            rintro e w6 ⟨rfl, b6⟩
                            have HB6 := Lib.hid (HB5.out.trans (b6.mono HB5.out.size))
                            cases hf : fitsR ⟨om, on', true, oc⟩ ⟨om, cn, co, true⟩
                            · rw [hf] at hgo
                              clear HGT
                              go_wp2_with fail
                              go_roundw
                              case rel => exact ⟨m, by omega, rfl, HB6.out, HGF.out hgo⟩
                              case measure => simp [RowKit.intOf]
                            · rw [hf] at hgo
                              obtain ⟨i, k1, k2, k3, k4, k5, k6, k7⟩ := HGT.out hgo
                              have HK1 := Lib.hid k1
                              have HK2 := Lib.hid k2
                              have HK3 := Lib.hid k3
                              have HR6 := Lib.hid (HR.out.later HB6.out hzN)
                              have hz6 : w.heap.size ≤ w6.heap.size := HR6.out.below.size
                              obtain ⟨pa, pc, rfl⟩ := RefW.pv_eq HR6.out
                              have hl6m := (HR6.out.leftCell (show m < t.left.length by rw [HLL.out]; omega)).1
                              have hl6c := (HR6.out.leftCell (show c < t.left.length by rw [HLL.out]; omega)).1
                              rw [HLM.out] at hl6m
                              rw [HLC.out] at hl6c
                              have hpl : t.pairs.length ≤ 2000000000000 := by omega
                              have hmH : lm ≤ 1048576 := by have := HG.out.high _ (nth_mem (show m < t.left.length by rw [HLL.out]; omega)); rw [HLM.out] at this; exact this
                              have hcH : lft ≤ 1048576 := by have := HG.out.high _ (nth_mem (show c < t.left.length by rw [HLL.out]; omega)); rw [HLC.out] at this; exact this
                              have hlf1 : 1 ≤ lft := H0.out
                              have hlm1 : 1 ≤ lm := k7
                              have htk := takeN_is (show 0 < lm from k7) (show 0 < lft from H0.out)
                              have hmo : ¬ (m : Int) < 0 := by omega
                              have HMC : RowKit.Hid (m ≠ c) := by show m ≠ c; omega
                              have HNEW : RowKit.Hid (∀ (v : Int) v7 w7, w7.ownsRow w.heap.size 40 3 v7 (t.pairs.length + 1) (pairCells t.pairs ++ [.int .i64 m, .int .i64 c, .int .i64 v]) → (w6.alloc (.cells #[.int .i64 m, .int .i64 c, .int .i64 v] 40)).grownBy w7 (Value.slice pa t.pairs.length pc).ownBlock →
                                  RowKit.Hid (RefW w.heap.size w (t.pairs ++ [⟨m, c, v⟩]) ((t.left.set m (lm - v)).set c (lft - v)) dead' v7 (.slice (some ⟨gL, 0, none⟩) l.length lc) (.slice (some ⟨w.heap.size + 1 + 1, 0, none⟩) l.length l.length) ((w7.setCell ⟨gL, m, none⟩ (.int .i64 (lm - v))).setCell ⟨gL, c, none⟩ (.int .i64 (lft - v)))) ∧
                                  w7.cell? ⟨gL, m, none⟩ = some (.int .i64 lm) ∧ w7.frozen? ⟨gL, m, none⟩ = false ∧ w7.cell? ⟨gL, c, none⟩ = some (.int .i64 lft) ∧ w7.frozen? ⟨gL, c, none⟩ = false) := fun v v7 w7 h7 hg7 => by
                                have hml7 : m < t.left.length := by rw [HLL.out]; omega
                                have hcl7 : c < (t.left.set m (lm - v)).length := by rw [List.length_set, HLL.out]; omega
                                have K7 := HR6.out.push (p := ⟨m, c, v⟩) ((Below.refl _ w6).alloc (Nat.le_refl _) (.cells #[.int .i64 m, .int .i64 c, .int .i64 v] 40)) hz6 h7 hg7
                                have K8 := K7.setLeft hml7 (lm - v)
                                have K9 := K8.setLeft hcl7 (lft - v)
                                obtain ⟨q1, q2⟩ := K7.leftCell hml7
                                obtain ⟨q3, q4⟩ := K7.leftCell (show c < t.left.length by rw [HLL.out]; omega)
                                rw [HLM.out] at q1
                                rw [HLC.out] at q3
                                exact ⟨K9, q1, q2, q3, q4⟩
                              have hpart : (2 ≤ lm ∧ 2 ≤ lft) ∨ (2 ≤ lm ∧ ¬ 2 ≤ lft) ∨ ¬ 2 ≤ lm := by omega
                              clear m0 m1 m2 m3 r0 r1 r2 r3 hlm hlc hdm HGT HGF k1 k2 k3 k7 HR5 HB5 b6
                              rcases hpart with ⟨hp1, hp2⟩ | ⟨hp1, hp2⟩ | hp1
                              · rw [if_pos ⟨hp1, hp2⟩] at htk
                                rw [htk] at k4 k5
                                have HK4 := Lib.hid k4
                                have HK5 := Lib.hid k5
                                have HNV := Lib.hid (HNEW.out 2)
                                have hown := HR6.out.pairs
                                clear k4 k5 htk HNEW
                                go_wp2_with (at_builtin; refine wpList_append_own_at _ rfl _ _ 33 rfl w.heap.size 40 i0 (.agg #[.int .i64 0, .int .i64 0, .int .i64 0]) 3 24 Try.underlying33 hi hz0 hz1 hz2 rfl (by decide) _ _ _ rfl (hown.alloc _) ⟨w6.heap.size, 0, none⟩ 1 1 [.int .i64 m, .int .i64 c, .int .i64 2] rfl rfl (newPair _ _ _ _) (onePair ⟨m, c, 2⟩) (by unfold maxLen; omega) (by omega) (by simp; omega) ?_; intro v70 w7 hR7 hg7 _ _; obtain ⟨a7, c7, rfl, -⟩ := ownsRow_slice hR7; obtain ⟨K9, q1, q2, q3, q4⟩ := HNV.out _ w7 hR7 hg7)
                                generalize (w7.setCell ⟨gL, m, none⟩ (.int .i64 (lm - 2))).setCell ⟨gL, c, none⟩ (.int .i64 (lft - 2)) = w9 at *
                                rw [← HK5.out, ← HK4.out] at K9
                                have HKL0 := kill_none m dead'
                                clear HR6 q1 q2 q3 q4 hR7 hg7 hown HNV
                                go_loopw [12] (fun kv wz => ∃ k : Nat, m + 1 ≤ k ∧ k ≤ c ∧ kv = .int .i64 k ∧ RefW w.heap.size w (pairP c i t).pairs (pairP c i t).left (killP m k dead') (.slice a7 (t.pairs.length + 1) c7) (.slice (some ⟨gL, 0, none⟩) l.length lc) (.slice (some ⟨w.heap.size + 1 + 1, 0, none⟩) l.length l.length) wz) (fun kv _ => c - (RowKit.intOf kv).toNat)
                                case atStart => exact ⟨m + 1, Nat.le_refl _, by omega, by go_num, by rw [HKL0]; exact K9.out⟩
                                case round =>
                                  clear HKL0 K9
                                  obtain ⟨k, hmk, hkc, rfl, hRZ⟩ := hrel
                                  have HRZ := Lib.hid hRZ
                                  by_cases hkl : k < c
                                  · have hkl' : (k : Int) < (c : Int) := by omega
                                    have hkl2 : (k : Int) < (l.length : Int) := by omega
                                    have hkd : k < (killP m k dead').length := by rw [kill_len, HDL.out]; omega
                                    obtain ⟨q1, q2⟩ := hRZ.deadCell hkd
                                    have hRS := hRZ.setDead hkd true
                                    rw [kill_step (show m < k by omega)] at hRS
                                    have HRS := Lib.hid hRS
                                    generalize (killP m k dead')[k]! = dk at *
                                    clear hRZ hRS hkd HRZ
                                    go_wp2_with fail
                                    go_roundw
                                    case rel => exact ⟨k + 1, by omega, by omega, by go_num, HRS.out⟩
                                    case measure => simp [RowKit.intOf]; omega
                                  · obtain rfl : k = c := by omega
                                    have hmz := (hRZ.leftCell (show k < (pairP k i t).left.length by rw [HK1.out.len]; omega)).1
                                    have HMZ := Lib.hid (cellN_of hmz)
                                    have hlow := HK1.out.low _ (nth_mem (show k < (pairP k i t).left.length by rw [HK1.out.len]; omega))
                                    have hpl2 : (pairP k i t).pairs.length = t.pairs.length + 1 := by rw [HK5.out]; simp
                                    have HPL2 := Lib.hid hpl2
                                    clear hRZ hmz hpl2
                                    go_wp2_with fail
                                    go_roundw
                                    case rel => exact ⟨pairP k i t, killP m k dead', HRZ.out, HK2, HK1, HK3, by rw [HPL2.out]; omega⟩
                                    case measure => rw [HME.out, HMZ.out]; omega
                              · rw [if_neg (fun h => hp2 h.2)] at htk
                                rw [htk] at k4 k5
                                have HK4 := Lib.hid k4
                                have HK5 := Lib.hid k5
                                have HNV := Lib.hid (HNEW.out 1)
                                have hown := HR6.out.pairs
                                clear k4 k5 htk HNEW
                                go_wp2_with (at_builtin; refine wpList_append_own_at _ rfl _ _ 33 rfl w.heap.size 40 i0 (.agg #[.int .i64 0, .int .i64 0, .int .i64 0]) 3 24 Try.underlying33 hi hz0 hz1 hz2 rfl (by decide) _ _ _ rfl (hown.alloc _) ⟨w6.heap.size, 0, none⟩ 1 1 [.int .i64 m, .int .i64 c, .int .i64 1] rfl rfl (newPair _ _ _ _) (onePair ⟨m, c, 1⟩) (by unfold maxLen; omega) (by omega) (by simp; omega) ?_; intro v70 w7 hR7 hg7 _ _; obtain ⟨a7, c7, rfl, -⟩ := ownsRow_slice hR7; obtain ⟨K9, q1, q2, q3, q4⟩ := HNV.out _ w7 hR7 hg7)
                                generalize (w7.setCell ⟨gL, m, none⟩ (.int .i64 (lm - 1))).setCell ⟨gL, c, none⟩ (.int .i64 (lft - 1)) = w9 at *
                                rw [← HK5.out, ← HK4.out] at K9
                                have HKL0 := kill_none m dead'
                                clear HR6 q1 q2 q3 q4 hR7 hg7 hown HNV
                                go_loopw [12] (fun kv wz => ∃ k : Nat, m + 1 ≤ k ∧ k ≤ c ∧ kv = .int .i64 k ∧ RefW w.heap.size w (pairP c i t).pairs (pairP c i t).left (killP m k dead') (.slice a7 (t.pairs.length + 1) c7) (.slice (some ⟨gL, 0, none⟩) l.length lc) (.slice (some ⟨w.heap.size + 1 + 1, 0, none⟩) l.length l.length) wz) (fun kv _ => c - (RowKit.intOf kv).toNat)
                                case atStart => exact ⟨m + 1, Nat.le_refl _, by omega, by go_num, by rw [HKL0]; exact K9.out⟩
                                case round =>
                                  clear HKL0 K9
                                  obtain ⟨k, hmk, hkc, rfl, hRZ⟩ := hrel
                                  have HRZ := Lib.hid hRZ
                                  by_cases hkl : k < c
                                  · have hkl' : (k : Int) < (c : Int) := by omega
                                    have hkl2 : (k : Int) < (l.length : Int) := by omega
                                    have hkd : k < (killP m k dead').length := by rw [kill_len, HDL.out]; omega
                                    obtain ⟨q1, q2⟩ := hRZ.deadCell hkd
                                    have hRS := hRZ.setDead hkd true
                                    rw [kill_step (show m < k by omega)] at hRS
                                    have HRS := Lib.hid hRS
                                    generalize (killP m k dead')[k]! = dk at *
                                    clear hRZ hRS hkd HRZ
                                    go_wp2_with fail
                                    go_roundw
                                    case rel => exact ⟨k + 1, by omega, by omega, by go_num, HRS.out⟩
                                    case measure => simp [RowKit.intOf]; omega
                                  · obtain rfl : k = c := by omega
                                    have hmz := (hRZ.leftCell (show k < (pairP k i t).left.length by rw [HK1.out.len]; omega)).1
                                    have HMZ := Lib.hid (cellN_of hmz)
                                    have hlow := HK1.out.low _ (nth_mem (show k < (pairP k i t).left.length by rw [HK1.out.len]; omega))
                                    have hpl2 : (pairP k i t).pairs.length = t.pairs.length + 1 := by rw [HK5.out]; simp
                                    have HPL2 := Lib.hid hpl2
                                    clear hRZ hmz hpl2
                                    go_wp2_with fail
                                    go_roundw
                                    case rel => exact ⟨pairP k i t, killP m k dead', HRZ.out, HK2, HK1, HK3, by rw [HPL2.out]; omega⟩
                                    case measure => rw [HME.out, HMZ.out]; omega
                              · rw [if_neg (fun h => hp1 h.1)] at htk
                                rw [htk] at k4 k5
                                have HK4 := Lib.hid k4
                                have HK5 := Lib.hid k5
                                have HNV := Lib.hid (HNEW.out 1)
                                have hown := HR6.out.pairs
                                clear k4 k5 htk HNEW
                                go_wp2_with (at_builtin; refine wpList_append_own_at _ rfl _ _ 33 rfl w.heap.size 40 i0 (.agg #[.int .i64 0, .int .i64 0, .int .i64 0]) 3 24 Try.underlying33 hi hz0 hz1 hz2 rfl (by decide) _ _ _ rfl (hown.alloc _) ⟨w6.heap.size, 0, none⟩ 1 1 [.int .i64 m, .int .i64 c, .int .i64 1] rfl rfl (newPair _ _ _ _) (onePair ⟨m, c, 1⟩) (by unfold maxLen; omega) (by omega) (by simp; omega) ?_; intro v70 w7 hR7 hg7 _ _; obtain ⟨a7, c7, rfl, -⟩ := ownsRow_slice hR7; obtain ⟨K9, q1, q2, q3, q4⟩ := HNV.out _ w7 hR7 hg7)
                                generalize (w7.setCell ⟨gL, m, none⟩ (.int .i64 (lm - 1))).setCell ⟨gL, c, none⟩ (.int .i64 (lft - 1)) = w9 at *
                                rw [← HK5.out, ← HK4.out] at K9
                                have HKL0 := kill_none m dead'
                                clear HR6 q1 q2 q3 q4 hR7 hg7 hown HNV
                                go_loopw [12] (fun kv wz => ∃ k : Nat, m + 1 ≤ k ∧ k ≤ c ∧ kv = .int .i64 k ∧ RefW w.heap.size w (pairP c i t).pairs (pairP c i t).left (killP m k dead') (.slice a7 (t.pairs.length + 1) c7) (.slice (some ⟨gL, 0, none⟩) l.length lc) (.slice (some ⟨w.heap.size + 1 + 1, 0, none⟩) l.length l.length) wz) (fun kv _ => c - (RowKit.intOf kv).toNat)
                                case atStart => exact ⟨m + 1, Nat.le_refl _, by omega, by go_num, by rw [HKL0]; exact K9.out⟩
                                case round =>
                                  clear HKL0 K9
                                  obtain ⟨k, hmk, hkc, rfl, hRZ⟩ := hrel
                                  have HRZ := Lib.hid hRZ
                                  by_cases hkl : k < c
                                  · have hkl' : (k : Int) < (c : Int) := by omega
                                    have hkl2 : (k : Int) < (l.length : Int) := by omega
                                    have hkd : k < (killP m k dead').length := by rw [kill_len, HDL.out]; omega
                                    obtain ⟨q1, q2⟩ := hRZ.deadCell hkd
                                    have hRS := hRZ.setDead hkd true
                                    rw [kill_step (show m < k by omega)] at hRS
                                    have HRS := Lib.hid hRS
                                    generalize (killP m k dead')[k]! = dk at *
                                    clear hRZ hRS hkd HRZ
                                    go_wp2_with fail
                                    go_roundw
                                    case rel => exact ⟨k + 1, by omega, by omega, by go_num, HRS.out⟩
                                    case measure => simp [RowKit.intOf]; omega
                                  · obtain rfl : k = c := by omega
                                    have hmz := (hRZ.leftCell (show k < (pairP k i t).left.length by rw [HK1.out.len]; omega)).1
                                    have HMZ := Lib.hid (cellN_of hmz)
                                    have hlow := HK1.out.low _ (nth_mem (show k < (pairP k i t).left.length by rw [HK1.out.len]; omega))
                                    have hpl2 : (pairP k i t).pairs.length = t.pairs.length + 1 := by rw [HK5.out]; simp
                                    have HPL2 := Lib.hid hpl2
                                    clear hRZ hmz hpl2
                                    go_wp2_with fail
                                    go_roundw
                                    case rel => exact ⟨pairP k i t, killP m k dead', HRZ.out, HK2, HK1, HK3, by rw [HPL2.out]; omega⟩
                                    case measure => rw [HME.out, HMZ.out]; omega
                          · rw [hlz] at hgo
                            simp only [Bool.false_and, Bool.not_true] at hgo
                            clear HGT
                            go_wp2_with fail
                            go_quiet (fail)
                            go_wp2_with fail
                            go_roundw
                            case rel => exact ⟨m, by omega, rfl, below_drewN HB.out, HGF.out hgo⟩
                            case measure => simp [RowKit.intOf]
                      · simp only [Bool.true_and, Bool.not_true, Bool.false_and] at hgo
                        clear HGT
                        go_wp2_with fail
                        go_quiet (fail)
                        go_wp2_with fail
                        go_roundw
                        case rel => exact ⟨m, by omega, rfl, below_drewN HB.out, HGF.out hgo⟩
                        case measure => simp [RowKit.intOf]
              · have HE := Lib.hid (HEX.out (by unfold clP; rw [HBG.out, hcc, if_pos rfl, closeP_done (by omega)]))
                clear HEX HTU HRD HI
                have h0' : ¬ t.left[c]! > 0 := h0
                generalize t.left[c]! = lft at *
                go_wp2_with fail
                go_roundw
                case rel => exact ⟨c + 1, dead', by omega, by go_num, by rw [HE.out.1, HE.out.2.1]; exact HR.out, HE.out.2.2⟩
                case measure => simp [RowKit.intOf]; omega
        · obtain rfl : c = l.length := by omega
          have hb := hR.below
          have hp := hR.pairs
          have hlf := hR.left
          obtain ⟨pa, pc, rfl, -⟩ := ownsRow_slice hp
          clear hR HR HRI
          go_wp2_with fail
          go_ret2
          exact ⟨⟨_, _, rfl, hp, hlf⟩, hb⟩
end Go.Proofs.Ytnijcglmfpiheaa
