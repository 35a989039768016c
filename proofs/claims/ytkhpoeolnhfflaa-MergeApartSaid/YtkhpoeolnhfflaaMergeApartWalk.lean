/-
  The walk of MergeApart: it returns true whatever it is handed. Conditions: the form's own bounds.
-/
import Derived.Test.YtkhpoeolnhfflaaMergeLaw
import Derived.StillTailTactics
set_option linter.unusedSimpArgs false
set_option linter.unusedVariables false
namespace Go.Proofs.Ytkhpoeolnhfflaa
open Go.Shelf Go.RowKit Go.Lib Go.Sort

theorem ins_all {lt : EditP → EditP → Bool} (y : EditP) : ∀ l : List EditP, (∀ x ∈ l, lt y x = false) → ins lt y l = l ++ [y]
  | [], _ => rfl
  | x :: t, h => by
    rw [ins, if_neg (by rw [h x (by simp)]; simp), ins_all y t fun z hz => h z (List.mem_cons_of_mem _ hz)]; rfl
theorem ss_same {lt : EditP → EditP → Bool} : ∀ l : List EditP, Up lt l → ss lt l = l := by
  refine snoc_ind (fun _ => rfl) fun l y ih h => ?_
  have h := List.pairwise_append.1 (show (l ++ [y]).Pairwise _ from h)
  rw [ss_snoc, ih h.1, ins_all y l fun x hx => h.2.2 x hx y (by simp)]
theorem checkP_ss (n : Nat) (l : List EditP) : checkP n (ss ltE l) = checkP n l := checkP_order (ss_perm ltE l) (ss_same _ (ss_up swoE l))
/-- What comes next among the chosen ones. -/
theorem cho_take {C ch : List Int} {i : Int} {r : List Int} {k : Nat} (hk : ch = C.take k) (hkl : k ≤ C.length) (h : C = ch ++ i :: r) : ∃ hlt : k < C.length, C[k] = i ∧ C.take (k + 1) = ch ++ [i] := by
  have hl : ch.length = k := by rw [hk, List.length_take]; omega
  have hlt : k < C.length := by rw [h]; simp; omega
  have e : C[k] = i := by
    have : C[k]? = some i := by rw [h, List.getElem?_append_right (by omega), hl, Nat.sub_self]; rfl
    rw [List.getElem?_eq_getElem hlt] at this; injection this
  exact ⟨hlt, e, by rw [List.take_succ_eq_append_getElem hlt, e, hk]⟩
theorem cho_rest {C ch : List Int} {i : Int} {r : List Int} {k : Nat} (hk : ch = C.take k) (hkl : k ≤ C.length) (h : C = ch ++ r) (hr : ∀ c ∈ r, i < c) (hlt : k < C.length) : i < C[k] := by
  have hl : ch.length = k := by rw [hk, List.length_take]; omega
  refine hr _ ?_
  have : C[k]? = r[0]? := by
    conv => lhs; rw [h]
    rw [List.getElem?_append_right (by omega), hl, Nat.sub_self]
  rw [List.getElem?_eq_getElem hlt] at this
  cases r with
  | nil => cases this
  | cons x t => simp at this; rw [this]; simp
theorem choAt_lo {l : List FindP} {i : Nat} {ch : List Int} : (∃ r, chooseP l = ch ++ r) → ∀ c ∈ ch, 0 ≤ c ∧ c < l.length := by
  rintro ⟨r, h⟩ c hc
  exact choose_range l c (by rw [h]; exact List.mem_append_left _ hc)

namespace mergeApart
set_option maxHeartbeats 16000000 in
set_option maxRecDepth 100000 in
theorem walk (s : ByteArray) (hs : s.size ≤ reachBytes) (a : Option Addr) (l : List FindP) (cap : Nat) (hl : l.length * 48 ≤ reachBytes) (hx : ∀ f ∈ l, FindOk f) (w : World) (hI : FindsIn w.heap.size w (.slice a l.length cap) l) :
    Calls Try.prog 7 #[.string s, .slice a l.length cap] w fun e w' => e = .returned (.bool true) ∧ Below w.heap.size w w' := by
  have hG := fun (w1 : World) (h : FindsIn w1.heap.size w1 (.slice a l.length cap) l) => greatF_any a cap l hx w1 h
  have HI := Lib.hid hI
  have mixed : Try.prog.follows Departure.mixedOrders = true := rfl
  have hrb : s.size < 9223372036854775807 := by unfold reachBytes at hs; omega
  clear hI hx hl hs
  cases hg : greatF l
  · rw [hg] at hG
    obtain ⟨g1, g2, g3⟩ := greatF_false hg
    by_cases hs5 : 5000 < s.size
    · have hs5' : (5000 : Int) < (s.size : Int) := by omega
      clear hg g3
      go_enter Try.func7, Try.ntmps7
      go_wp2_with fail
      refine (mergeAlive_any _).mono ?_
      rintro e w1 ⟨rfl, b1⟩
      go_wp2_with fail
      refine (hG w1 (HI.out.later b1)).mono ?_
      rintro e w2 ⟨rfl, rfl⟩
      go_wp2_with fail
      go_ret
      exact ⟨rfl, b1⟩
    · have hs5' : ¬ (5000 : Int) < (s.size : Int) := by omega
      have hCp := fun (w1 : World) (h : FindsIn w1.heap.size w1 (.slice a l.length cap) l) => copyFindings_any a cap l (by omega) (fun f hf => by have := g3 f hf; omega) w1 h
      have hCh := fun (a1 : Option Addr) (c1 : Nat) (w1 : World) (h : FindsIn w1.heap.size w1 (.slice a1 l.length c1) l) => mergeChoose_any a1 c1 l (by omega) (by omega) w1 h
      have hlen : (chooseP l).length ≤ 100 := by have := choose_le l; omega
      have hCi := fun (a1 : Option Addr) (c1 : Nat) (w1 : World) (h : IntsIn w1.heap.size w1 (.slice a1 (chooseP l).length c1) (chooseP l)) => copyInts_any a1 c1 (chooseP l) (by omega) w1 h
      have hME := fun (a1 a2 : Option Addr) (c1 c2 : Nat) (w1 : World) (h : FindsIn w1.heap.size w1 (.slice a1 l.length c1) l) (h2 : IntsIn w1.heap.size w1 (.slice a2 (chooseP l).length c2) (chooseP l)) => mergeEdits_any a1 a2 c1 c2 l (chooseP l) (by omega) (by omega) (fun f hf => by have := g3 f hf; omega) w1 h h2
      have hEL := editsF_len l (fun f hf => by have := g3 f hf; omega) (chooseP l)
      have hz2 := ss_length ltE (editsF l (chooseP l))
      have hCE := fun (a1 : Option Addr) (c1 : Nat) (w1 : World) (h : EditsIn w1.heap.size w1 (.slice a1 (editsF l (chooseP l)).length c1) (ss ltE (editsF l (chooseP l)))) => by
        rw [← hz2] at h
        have := editCheck_any s (by omega) a1 c1 (ss ltE (editsF l (chooseP l))) (by rw [hz2]; omega) w1 h
        rw [hz2, checkP_ss] at this
        exact this
      have hCF := fun (f : FindP) (hf : f ∈ l) (a1 : Option Addr) (c1 : Nat) (w1 : World) (h : EditsIn w1.heap.size w1 (.slice a1 f.edits.length c1) f.edits) => editCheck_any s (by omega) a1 c1 f.edits (by have := g3 f hf; omega) w1 h
      have hKL := fun (x y : FindP) (hx : x ∈ l) (hy : y ∈ l) (a1 a2 : Option Addr) (c1 c2 : Nat) (w1 : World) (h1 : EditsIn w1.heap.size w1 (.slice a1 x.edits.length c1) x.edits) (h2 : EditsIn w1.heap.size w1 (.slice a2 y.edits.length c2) y.edits) => mergeClash_any a1 a2 c1 c2 x.edits y.edits (by have := g3 x hx; omega) (by have := g3 y hy; omega) w1 h1 h2
      have HCF := Lib.hid hCF
      have HKL := Lib.hid hKL
      have HCC : RowKit.Hid ((∀ f ∈ l, checkP s.size f.edits = 0) → checkP s.size (editsF l (chooseP l)) = 0) := fun h => choose_checked h
      have HS : RowKit.Hid (∀ (i : Nat) (ch : List Int) (hi : i < l.length), ChoAt l i ch → (ChoAt l (i + 1) (ch ++ [(i : Int)]) ∧ ∃ r, chooseP l = ch ++ (i : Int) :: r) ∨ (ChoAt l (i + 1) ch ∧ (ch.any fun c => clashP l[i].edits l[c.toNat]!.edits) = true ∧ ∃ r, chooseP l = ch ++ r ∧ ∀ c ∈ r, (i : Int) < c)) := fun i ch hi h => choAt_step h hi
      have HR : RowKit.Hid (∀ c ∈ chooseP l, 0 ≤ c ∧ c < l.length) := choose_range l
      have HEND : RowKit.Hid (∀ ch, ChoAt l l.length ch → chooseP l = ch) := fun ch h => choAt_end h
      have hST := choAt_start l
      clear hg g3 hCF hKL hz2
      generalize hC : chooseP l = C at *
      generalize editsF l C = E at *
      generalize ss ltE E = S at *
      go_enter Try.func7, Try.ntmps7
      go_wp2_with fail
      refine (mergeAlive_any _).mono ?_
      rintro e w1 ⟨rfl, b1⟩
      go_wp2_with fail
      refine (hG w1 (HI.out.later b1)).mono ?_
      rintro e w2 ⟨rfl, rfl⟩
      go_wp2_with fail
      go_loopw [5] (fun iv wr => ∃ i : Nat, i ≤ l.length ∧ iv = .int .i64 i ∧ Below w.heap.size w wr ∧ RowKit.Hid (∀ f ∈ l.take i, checkP s.size f.edits = 0)) (fun iv _ => l.length - (RowKit.intOf iv).toNat)
      case atStart => exact ⟨0, Nat.zero_le _, rfl, b1, (fun f hf => by simp at hf)⟩
      case round =>
        clear b1
        obtain ⟨i, hi, rfl, hb, HN⟩ := hrel
        have zw := hb.size
        by_cases hlt : i < l.length
        · have hlt' : (i : Int) < (l.length : Int) := by omega
          have hmem := List.getElem_mem hlt
          have HT : RowKit.Hid (checkP s.size l[i].edits = 0 → ∀ f ∈ l.take (i + 1), checkP s.size f.edits = 0) := fun h f hf => by
            rw [List.take_succ_eq_append_getElem hlt] at hf
            rcases List.mem_append.1 hf with h1 | h1
            · exact HN.out f h1
            · rw [List.mem_singleton.1 h1]; exact h
          obtain ⟨g, off, rfl, hgl, -, hc⟩ := (HI.out.below hb).at hlt
          obtain ⟨-, -, -, aE, cE, c3, hE⟩ := hc i hlt
          have hck := HCF.out l[i] hmem aE cE wr (hE.mono zw)
          clear hc
          generalize l[i] = f at *
          generalize checkP s.size f.edits = r at *
          by_cases hr : r = 0
          · subst hr
            go_wp2_with fail
            refine hck.mono ?_
            clear hck
            rintro e w3 ⟨rfl, b3⟩
            have d3 := hb.trans (b3.mono zw)
            go_wp2_with fail
            go_roundw
            case rel => exact ⟨i + 1, by omega, by go_num, d3, HT.out (by first | rfl | trivial)⟩
            case measure => simp [RowKit.intOf]; omega
          · go_wp2_with fail
            refine hck.mono ?_
            clear hck
            rintro e w3 ⟨rfl, b3⟩
            have d3 := hb.trans (b3.mono zw)
            go_wp2_with fail
            go_ret
            exact ⟨rfl, d3⟩
        · obtain rfl : i = l.length := by omega
          rw [List.take_length] at HN
          have hcc := HCC.out HN.out
          rw [hcc] at hCE
          clear HCC HN hcc
          go_wp2_with fail
          refine (hCp wr (HI.out.later hb)).mono ?_
          rintro e w3 ⟨⟨a3, c3, rfl, hO3⟩, b3⟩
          have d3 := hb.trans (b3.mono zw)
          clear b3
          go_wp2_with fail
          refine (hCh a3 c3 w3 hO3).mono ?_
          rintro e w4 ⟨⟨a4, c4, rfl, hC4⟩, b4⟩
          have d4 := d3.trans (b4.mono d3.size)
          clear b4 d3 hO3
          go_wp2_with fail
          refine (hCp w4 (HI.out.later d4)).mono ?_
          rintro e w5 ⟨⟨a5, c5, rfl, hO5⟩, b5⟩
          have hC5 := hC4.later b5
          have d5 := d4.trans (b5.mono d4.size)
          clear b5 d4 hC4
          go_wp2_with fail
          refine (hCi a4 c4 w5 hC5).mono ?_
          rintro e w6 ⟨⟨a6, c6, rfl, hC6⟩, b6⟩
          have hC46 := hC5.later b6
          have hO6 := hO5.later b6
          have d6 := d5.trans (b6.mono d5.size)
          clear b6 d5 hC5 hO5
          go_wp2_with fail
          refine (hME a5 a6 c5 c6 w6 hO6 hC6).mono ?_
          rintro e w7 ⟨⟨a7, c7, rfl, hE7⟩, b7⟩
          have hC7 := hC46.later b7
          have d7 := d6.trans (b7.mono d6.size)
          clear b7 d6 hC46 hO6 hC6
          go_wp2_with fail
          refine (hCE a7 c7 w7 hE7).mono ?_
          rintro e w8 ⟨rfl, b8⟩
          have hC8 := hC7.later b8
          have d8 := d7.trans (b8.mono d7.size)
          clear b8 d7 hC7 hE7
          have HC8 := Lib.hid hC8
          have HLX := Lib.hid (HI.out.later d8)
          clear hC8 hb HI hCp hCh hCi hME hCE HCF
          go_wp2_with fail
          go_loopw [7, 8] (fun kv iv wr => ∃ k i : Nat, i ≤ l.length ∧ k ≤ C.length ∧ kv = .int .i64 k ∧ iv = .int .i64 i ∧ Below w8.heap.size w8 wr ∧ RowKit.Hid (ChoAt l i (C.take k))) (fun _ iv _ => l.length - (RowKit.intOf iv).toNat)
          case atStart => exact ⟨0, 0, Nat.zero_le _, Nat.zero_le _, rfl, rfl, Below.refl _ _, hST⟩
          case round =>
            obtain ⟨k, i, hi, hk, rfl, rfl, hbx, HCH⟩ := hrel
            have zx := hbx.size
            by_cases hlt : i < l.length
            · have hlt' : (i : Int) < (l.length : Int) := by omega
              rcases HS.out i _ hlt HCH.out with ⟨st, r, hr⟩ | ⟨st, hany, r, hr, hgt⟩
              · obtain ⟨hkl, hck, htk⟩ := cho_take rfl hk hr
                have hkl' : (k : Int) < (C.length : Int) := by omega
                rw [← htk] at st
                have HST := Lib.hid st
                obtain ⟨gC, oC, rfl, hgC, -, hic⟩ := HC8.out.at hkl
                have hv := (hbx.cell (p := ⟨gC, oC + k, none⟩) hgC).trans (hic k hkl)
                rw [hck] at hv
                clear hic hr htk st hck
                go_wp2_with fail
                go_roundw
                case rel => exact ⟨k + 1, i + 1, by omega, by omega, by go_num, by go_num, hbx, HST.out⟩
                case measure => simp [RowKit.intOf]; omega
              · have HST := Lib.hid st
                have HANY := Lib.hid hany
                have HLO : RowKit.Hid (∀ c ∈ C.take k, 0 ≤ c ∧ c < l.length) := fun c hc => HR.out c (List.mem_of_mem_take hc)
                have hmi := List.getElem_mem hlt
                by_cases hkl : k < C.length
                · have hkl' : (k : Int) < (C.length : Int) := by omega
                  have hne := cho_rest rfl hk hr hgt hkl
                  obtain ⟨gC, oC, rfl, hgC, -, hic⟩ := HC8.out.at hkl
                  have hv := (hbx.cell (p := ⟨gC, oC + k, none⟩) hgC).trans (hic k hkl)
                  have hne' : (C[k] == (i : Int)) = false := by rw [beq_eq_false_iff_ne]; omega
                  clear hic hr hgt st hany hne
                  generalize C[k] = ck at *
                  go_wp2_with fail
                  go_loopw [9, 10] (fun bv jv wr => ∃ (j : Nat) (b : Bool), j ≤ k ∧ jv = .int .i64 j ∧ bv = .bool b ∧ Below w8.heap.size w8 wr ∧ RowKit.Hid (b = ((C.take k).take j).any fun c => clashP l[i].edits l[c.toNat]!.edits)) (fun _ jv _ => k - (RowKit.intOf jv).toNat)
                  case atStart => exact ⟨0, false, Nat.zero_le _, rfl, rfl, hbx, by simp [RowKit.Hid]⟩
                  case round =>
                    clear hbx zx
                    obtain ⟨j, b, hj, rfl, rfl, hbx, HB⟩ := hrel
                    have zx := hbx.size
                    by_cases hjk : j < k
                    · have hjk' : (j : Int) < (k : Int) := by omega
                      have hjl : j < C.length := by omega
                      have hjt : j < (C.take k).length := by rw [List.length_take]; omega
                      have HST2 : RowKit.Hid (((C.take k).take (j + 1)).any (fun c => clashP l[i].edits l[c.toNat]!.edits) = (((C.take k).take j).any (fun c => clashP l[i].edits l[c.toNat]!.edits) || clashP l[i].edits l[C[j].toNat]!.edits)) := by
                        show _ = _
                        rw [List.take_succ_eq_append_getElem hjt, List.any_append, List.getElem_take]; simp
                      have hcj := HLO.out C[j] (by have := List.getElem_mem hjt; rwa [List.getElem_take] at this)
                      obtain ⟨gJ, oJ, eJ, hgJ, -, hicJ⟩ := HC8.out.at hjl
                      have hvJ := (hbx.cell (p := ⟨gJ, oJ + j, none⟩) hgJ).trans (hicJ j hjl)
                      clear hicJ
                      cases b
                      · generalize C[j] = cv at *
                        obtain ⟨m, rfl⟩ : ∃ m : Nat, cv = m := ⟨cv.toNat, by omega⟩
                        have hm : m < l.length := by omega
                        have hmi2 : (m : Int) < (l.length : Int) := by omega
                        have hmm := List.getElem_mem hm
                        obtain ⟨g, off, eg, hgl, -, hc⟩ := HLX.out.at hlt
                        obtain ⟨-, -, -, aE, cE, c3, hE⟩ := hc i hlt
                        obtain ⟨-, -, -, aF, cF, q3, hF⟩ := hc m hm
                        have HKC : RowKit.Hid (∀ X, Below w8.heap.size w8 X → Calls Try.prog 24 #[.slice aF l[m].edits.length cF, .slice aE l[i].edits.length cE] X fun e w' => e = .returned (.bool (clashP l[i].edits l[m].edits)) ∧ Below w8.heap.size w8 w') := fun X hX => by
                          rw [clashP_comm]
                          exact (HKL.out l[m] l[i] hmm hmi aF aE cF cE X (hF.later0 hX) (hE.later0 hX)).mono fun e w' ⟨h1, h2⟩ => ⟨h1, hX.trans (h2.mono hX.size)⟩
                        rw [← hbx.cell (p := ⟨g, _, none⟩) hgl] at c3 q3
                        have HB2 : RowKit.Hid (clashP l[i].edits l[m].edits = ((C.take k).take (j + 1)).any fun c => clashP l[i].edits l[c.toNat]!.edits) := by
                          show _ = _
                          rw [HST2.out, ← HB.out, Int.toNat_natCast, getElem!_pos l m hm]; rfl
                        have HBX := Lib.hid hbx
                        cases eJ
                        cases eg
                        clear hc hE hF hbx HB HST2 hcj
                        go_wp2_with fail
                        go_still_tail 15, (by kernel_rfl)
                        change wpList _ _ _ _ _ wr.drew
                        generalize hwd : wr.drew = wd
                        have hbd : Below w8.heap.size w8 wd := by rw [← hwd]; exact HBX.out.drew
                        clear hwd
                        go_wp2_with fail
                        refine (HKC.out wd hbd).mono ?_
                        rintro e w9 ⟨rfl, b9⟩
                        go_wp2_with fail
                        go_roundw
                        case rel => exact ⟨j + 1, _, by omega, by go_num, rfl, b9, HB2.out⟩
                        case measure => simp [RowKit.intOf]; omega
                      · have HB2 : RowKit.Hid (true = ((C.take k).take (j + 1)).any fun c => clashP l[i].edits l[c.toNat]!.edits) := by
                          show _ = _
                          rw [HST2.out, ← HB.out]; rfl
                        go_wp2_with fail
                        go_quiet (fail)
                        go_wp2_with fail
                        go_roundw
                        case rel => exact ⟨j + 1, true, by omega, by go_num, rfl, below_drewN hbx, HB2.out⟩
                        case measure => simp [RowKit.intOf]; omega
                    · obtain rfl : j = k := by omega
                      rw [List.take_of_length_le (by rw [List.length_take]; omega), HANY.out] at HB
                      obtain rfl : b = true := HB.out
                      go_wp2_with fail
                      go_roundw
                      case rel => exact ⟨j, i + 1, by omega, by omega, by go_num, by go_num, hbx, HST.out⟩
                      case measure => simp [RowKit.intOf]; omega
                · have hkl' : ¬ (k : Int) < (C.length : Int) := by omega
                  clear hr hgt st hany
                  go_wp2_with fail
                  go_loopw [9, 10] (fun bv jv wr => ∃ (j : Nat) (b : Bool), j ≤ k ∧ jv = .int .i64 j ∧ bv = .bool b ∧ Below w8.heap.size w8 wr ∧ RowKit.Hid (b = ((C.take k).take j).any fun c => clashP l[i].edits l[c.toNat]!.edits)) (fun _ jv _ => k - (RowKit.intOf jv).toNat)
                  case atStart => exact ⟨0, false, Nat.zero_le _, rfl, rfl, hbx, by simp [RowKit.Hid]⟩
                  case round =>
                    clear hbx zx
                    obtain ⟨j, b, hj, rfl, rfl, hbx, HB⟩ := hrel
                    have zx := hbx.size
                    by_cases hjk : j < k
                    · have hjk' : (j : Int) < (k : Int) := by omega
                      have hjl : j < C.length := by omega
                      have hjt : j < (C.take k).length := by rw [List.length_take]; omega
                      have HST2 : RowKit.Hid (((C.take k).take (j + 1)).any (fun c => clashP l[i].edits l[c.toNat]!.edits) = (((C.take k).take j).any (fun c => clashP l[i].edits l[c.toNat]!.edits) || clashP l[i].edits l[C[j].toNat]!.edits)) := by
                        show _ = _
                        rw [List.take_succ_eq_append_getElem hjt, List.any_append, List.getElem_take]; simp
                      have hcj := HLO.out C[j] (by have := List.getElem_mem hjt; rwa [List.getElem_take] at this)
                      obtain ⟨gJ, oJ, eJ, hgJ, -, hicJ⟩ := HC8.out.at hjl
                      have hvJ := (hbx.cell (p := ⟨gJ, oJ + j, none⟩) hgJ).trans (hicJ j hjl)
                      clear hicJ
                      cases b
                      · generalize C[j] = cv at *
                        obtain ⟨m, rfl⟩ : ∃ m : Nat, cv = m := ⟨cv.toNat, by omega⟩
                        have hm : m < l.length := by omega
                        have hmi2 : (m : Int) < (l.length : Int) := by omega
                        have hmm := List.getElem_mem hm
                        obtain ⟨g, off, eg, hgl, -, hc⟩ := HLX.out.at hlt
                        obtain ⟨-, -, -, aE, cE, c3, hE⟩ := hc i hlt
                        obtain ⟨-, -, -, aF, cF, q3, hF⟩ := hc m hm
                        have HKC : RowKit.Hid (∀ X, Below w8.heap.size w8 X → Calls Try.prog 24 #[.slice aF l[m].edits.length cF, .slice aE l[i].edits.length cE] X fun e w' => e = .returned (.bool (clashP l[i].edits l[m].edits)) ∧ Below w8.heap.size w8 w') := fun X hX => by
                          rw [clashP_comm]
                          exact (HKL.out l[m] l[i] hmm hmi aF aE cF cE X (hF.later0 hX) (hE.later0 hX)).mono fun e w' ⟨h1, h2⟩ => ⟨h1, hX.trans (h2.mono hX.size)⟩
                        rw [← hbx.cell (p := ⟨g, _, none⟩) hgl] at c3 q3
                        have HB2 : RowKit.Hid (clashP l[i].edits l[m].edits = ((C.take k).take (j + 1)).any fun c => clashP l[i].edits l[c.toNat]!.edits) := by
                          show _ = _
                          rw [HST2.out, ← HB.out, Int.toNat_natCast, getElem!_pos l m hm]; rfl
                        have HBX := Lib.hid hbx
                        cases eJ
                        cases eg
                        clear hc hE hF hbx HB HST2 hcj
                        go_wp2_with fail
                        go_still_tail 15, (by kernel_rfl)
                        change wpList _ _ _ _ _ wr.drew
                        generalize hwd : wr.drew = wd
                        have hbd : Below w8.heap.size w8 wd := by rw [← hwd]; exact HBX.out.drew
                        clear hwd
                        go_wp2_with fail
                        refine (HKC.out wd hbd).mono ?_
                        rintro e w9 ⟨rfl, b9⟩
                        go_wp2_with fail
                        go_roundw
                        case rel => exact ⟨j + 1, _, by omega, by go_num, rfl, b9, HB2.out⟩
                        case measure => simp [RowKit.intOf]; omega
                      · have HB2 : RowKit.Hid (true = ((C.take k).take (j + 1)).any fun c => clashP l[i].edits l[c.toNat]!.edits) := by
                          show _ = _
                          rw [HST2.out, ← HB.out]; rfl
                        go_wp2_with fail
                        go_quiet (fail)
                        go_wp2_with fail
                        go_roundw
                        case rel => exact ⟨j + 1, true, by omega, by go_num, rfl, below_drewN hbx, HB2.out⟩
                        case measure => simp [RowKit.intOf]; omega
                    · obtain rfl : j = k := by omega
                      rw [List.take_of_length_le (by rw [List.length_take]; omega), HANY.out] at HB
                      obtain rfl : b = true := HB.out
                      go_wp2_with fail
                      go_roundw
                      case rel => exact ⟨j, i + 1, by omega, by omega, by go_num, by go_num, hbx, HST.out⟩
                      case measure => simp [RowKit.intOf]; omega
            · obtain rfl : i = l.length := by omega
              have he := HEND.out _ HCH.out
              have hkC : (k : Int) = (C.length : Int) := by
                have := congrArg List.length he
                rw [List.length_take] at this
                omega
              have hbb := d8.trans (hbx.mono d8.size)
              clear he
              go_wp2_with fail
              go_ret
              exact ⟨by first | rfl | simp [hkC], hbb⟩
  · rw [hg] at hG
    go_enter Try.func7, Try.ntmps7
    go_wp2_with fail
    refine (mergeAlive_any _).mono ?_
    rintro e w1 ⟨rfl, b1⟩
    go_wp2_with fail
    refine (hG w1 (HI.out.later b1)).mono ?_
    rintro e w2 ⟨rfl, rfl⟩
    go_wp2_with fail
    go_ret
    exact ⟨rfl, b1⟩
end mergeApart
end Go.Proofs.Ytkhpoeolnhfflaa
