/-
  The walk of EditOrder: it returns true whatever the text, the edits and the number. Conditions: the form's own bounds.
-/
import Derived.Test.YtkhpoeolnhfflaaEditPartsWalk
import Derived.Laws.BitsLemmas
set_option linter.unusedSimpArgs false
set_option linter.unusedVariables false
namespace Go.Proofs.Ytkhpoeolnhfflaa
open Go.Shelf Go.RowKit Go.Lib Go.Sort

theorem i64_and1023 (n : Int) : bits .and .i64 n 1023 = n % 1024 := by
  have h127 : (BitVec.ofInt 64 1023).toNat = 2 ^ 10 - 1 := by decide
  have key : (BitVec.ofInt 64 n &&& BitVec.ofInt 64 1023).toNat = (n % ((2 ^ 64 : Nat) : Int)).toNat % 2 ^ 10 := by
    rw [BitVec.toNat_and, BitVec.toNat_ofInt, h127, Nat.and_two_pow_sub_one_eq_mod]
  show IntKind.i64.wrap ((BitVec.ofInt 64 n &&& BitVec.ofInt 64 1023).toNat : Nat) = n % 1024
  rw [key, IntKind.wrap_i64]
  omega

/-- A row turned by c places, as far as k. -/
def turnT (l : List EditP) (c k : Nat) : List EditP := (List.range k).map fun x => l[(x + c) % l.length]!
theorem turnT_succ (l : List EditP) (c k : Nat) : turnT l c (k + 1) = turnT l c k ++ [l[(k + c) % l.length]!] := by simp [turnT, List.range_succ]
@[simp] theorem turnT_length (l : List EditP) (c k : Nat) : (turnT l c k).length = k := by simp [turnT]
theorem turn_mod {n x r c : Nat} (hr : r = c % n) (hn : 0 < n) (hx : x < n) : (x + c) % n = if x + r < n then x + r else x + r - n := by
  have hr2 : r < n := by rw [hr]; exact Nat.mod_lt _ hn
  rw [Nat.add_mod, Nat.mod_eq_of_lt hx, ← hr]
  split
  · rename_i h; exact Nat.mod_eq_of_lt h
  · rename_i h
    rw [Nat.mod_eq_sub_mod (by omega)]
    exact Nat.mod_eq_of_lt (by omega)
theorem turnT_perm (l : List EditP) (c : Nat) : (turnT l c l.length).Perm l := by
  rcases Nat.eq_zero_or_pos l.length with h0 | h0
  · rw [List.length_eq_zero_iff.1 h0]; exact .refl _
  · have hr2 : c % l.length < l.length := Nat.mod_lt _ h0
    have e : turnT l c l.length = l.drop (c % l.length) ++ l.take (c % l.length) := by
      apply List.ext_getElem
      · simp; omega
      · intro x h1 h2
        have hx : x < l.length := by simpa using h1
        simp only [turnT, List.getElem_map, List.getElem_range]
        rw [turn_mod rfl h0 hx]
        by_cases hlt : x + c % l.length < l.length
        · rw [if_pos hlt, getElem!_pos l _ hlt, List.getElem_append_left (by simp; omega), List.getElem_drop]
          congr 1; omega
        · rw [if_neg hlt, getElem!_pos l _ (by omega), List.getElem_append_right (by simp; omega), List.getElem_take]
          congr 1; simp; omega
    rw [e]
    exact List.perm_append_comm.trans (by rw [List.take_append_drop])
theorem applyR_nil (s : ByteArray) : applyR s [] = s := by
  unfold applyR
  rw [if_pos (by rfl)]
  show (⟨(applyB s.data.toList 0 []).toArray⟩ : ByteArray) = s
  simp [applyB]

namespace editOrder
set_option maxHeartbeats 16000000 in
set_option maxRecDepth 100000 in
theorem walk (s : ByteArray) (hs : s.size ≤ reachBytes) (a : Option Addr) (l : List EditP) (cap : Nat) (hl : l.length * 32 ≤ reachBytes) (hx : ∀ e ∈ l, EditOk e) (k0 : Int) (_hk : (Lit.int .i64 k0).wf = true) (w : World) (hI : EditsIn w.heap.size w (.slice a l.length cap) l) :
    Calls Try.prog 11 #[.string s, .slice a l.length cap, .int .i64 k0] w fun e w' => e = .returned (.bool true) ∧ Below w.heap.size w w' := by
  have hG := fun (w1 : World) (h : EditsIn w1.heap.size w1 (.slice a l.length cap) l) => great_any s hs a cap l hl (fun e he => (hx e he).text) w1 h
  obtain ⟨i0, hi, hz0, hz1, hz2⟩ := info_parts infoEdit
  have HI := Lib.hid hI
  have mixed : Try.prog.follows Departure.mixedOrders = true := rfl
  clear hI hl hx hs
  cases hg : greatP s.size l
  · rw [hg] at hG
    obtain ⟨g1, g2, g3⟩ := great_false hg
    clear hg
    have hA0 := fun (w1 : World) => editApply_any s (by omega) none 0 [] (by simp) (fun e he => by cases he) w1 ⟨none, 0, rfl, fun h => absurd rfl h⟩
    rw [show checkP s.size [] = 0 from rfl, applyR_nil] at hA0
    have hA := fun (m : List EditP) (hm : m.Perm l) (a1 : Option Addr) (c1 : Nat) (w1 : World) (h : EditsIn w1.heap.size w1 (.slice a1 m.length c1) m) => editApply_any s (by omega) a1 c1 m (by have := hm.length_eq; omega) (fun e he => by have := g2 e (hm.mem_iff.1 he); omega) w1 h
    have HA := Lib.hid hA
    clear hA
    have hCp := fun (w1 : World) (h : EditsIn w1.heap.size w1 (.slice a l.length cap) l) => copyEdits_any a cap l (by omega) w1 h
    obtain ⟨c, hc⟩ : ∃ c : Nat, bits .and .i64 k0 1023 = (c : Int) := ⟨(k0 % 1024).toNat, by rw [i64_and1023]; omega⟩
    have hc2 : c ≤ 1023 := by have := i64_and1023 k0; omega
    clear g2
    go_enter Try.func11, Try.ntmps11
    go_wp2_with fail
    refine (editAlive_any _).mono ?_
    rintro e w1 ⟨rfl, b1⟩
    have hI1 := HI.out.later b1
    go_wp2_with fail
    refine (hG w1 hI1).mono ?_
    rintro e w2 ⟨rfl, b2⟩
    have hI2 := hI1.later b2
    have d2 := b1.trans (b2.mono b1.size)
    clear b1 b2 hI1
    go_wp2_with fail
    refine (hA0 w2).mono ?_
    rintro e w3 ⟨rfl, b3⟩
    have HI3 := Lib.hid (hI2.later b3)
    have D3 := Lib.hid (d2.trans (b3.mono d2.size))
    clear b3 hI2 d2
    go_wp2_with fail
    go_loopw [9, 10] (fun iv _ wr => ∃ i : Nat, i ≤ l.length ∧ iv = .int .i64 i ∧ RowKit.Hid (∀ x (hx : x < l.length), x < i → ∀ y (hy : y < x), ¬ (l[x].fr = l[y].fr ∧ l[x].to = l[y].to)) ∧ Below w3.heap.size w3 wr) (fun iv _ _ => l.length - (RowKit.intOf iv).toNat)
    case atStart => exact ⟨0, Nat.zero_le _, rfl, (fun x _ hx => by omega), Below.refl _ _⟩
    case round =>
      obtain ⟨i, hil, rfl, HK, hbw⟩ := hrel
      by_cases hlt : i < l.length
      · have hlt' : (i : Int) < (l.length : Int) := by omega
        go_wp2_with fail
        go_loopw [10] (fun jv wr => ∃ j : Nat, j ≤ i ∧ jv = .int .i64 j ∧ RowKit.Hid (∀ y (hy : y < l.length), y < j → ¬ (l[i].fr = l[y].fr ∧ l[i].to = l[y].to)) ∧ Below w3.heap.size w3 wr) (fun jv _ => i - (RowKit.intOf jv).toNat)
        case atStart => exact ⟨0, Nat.zero_le _, rfl, (fun y _ hy => by omega), hbw⟩
        case round =>
          clear hbw
          obtain ⟨j, hji, rfl, HJ, hbw⟩ := hrel
          by_cases hjl : j < i
          · have hjl' : (j : Int) < (i : Int) := by omega
            have hjll : (j : Int) < (l.length : Int) := by omega
            have hj2 : j < l.length := by omega
            obtain ⟨g, off, rfl, hgl, -, hcc⟩ := (HI3.out.below hbw).at hlt
            obtain ⟨c0, c1, c2⟩ := hcc i hlt
            obtain ⟨d0, d1, d2⟩ := hcc j hj2
            have HF : RowKit.Hid (¬ (l[i].fr = l[j].fr ∧ l[i].to = l[j].to) → ∀ y (hy : y < l.length), y < j + 1 → ¬ (l[i].fr = l[y].fr ∧ l[i].to = l[y].to)) := fun h y hy hyj => by
              rcases Nat.lt_or_ge y j with h1 | h1
              · exact HJ.out y hy h1
              · obtain rfl : y = j := by omega
                exact h
            clear hcc HJ c2 d2
            generalize l[i] = x at *
            generalize l[j] = y at *
            obtain ⟨x0, x1, x2⟩ := x
            obtain ⟨y0, y1, y2⟩ := y
            simp only at c0 c1 d0 d1
            have HF2 : RowKit.Hid (¬ (x0 = y0 ∧ x1 = y1) → ∀ y (hy : y < l.length), y < j + 1 → ¬ (x0 = l[y].fr ∧ x1 = l[y].to)) := HF.out
            by_cases h0 : x0 = y0
            · subst h0
              by_cases h1 : x1 = y1
              · subst h1
                go_wp2_with fail
                go_quiet (fail)
                go_wp2_with fail
                go_ret
                exact ⟨rfl, D3.out.trans ((below_drewN hbw).mono D3.out.size)⟩
              · have hb1 : (x1 == y1) = false := beq_eq_false_iff_ne.2 h1
                go_wp2_with fail
                go_quiet (fail)
                go_wp2_with fail
                go_roundw
                case rel => exact ⟨j + 1, by omega, by go_num, HF2.out (fun h => h1 h.2), below_drewN hbw⟩
                case measure => simp [RowKit.intOf]; omega
            · have hb0 : (x0 == y0) = false := beq_eq_false_iff_ne.2 h0
              go_wp2_with fail
              go_quiet (fail)
              go_wp2_with fail
              go_roundw
              case rel => exact ⟨j + 1, by omega, by go_num, HF2.out (fun h => h0 h.1), below_drewN hbw⟩
              case measure => simp [RowKit.intOf]; omega
          · obtain rfl : j = i := by omega
            have hjl' : ¬ (j : Int) < (j : Int) := by omega
            go_wp2_with fail
            go_roundw
            case rel =>
              refine ⟨j + 1, by omega, by go_num, ?_, hbw⟩
              show ∀ x (hx : x < l.length), x < j + 1 → ∀ y (hy : y < x), ¬ (l[x].fr = l[y].fr ∧ l[x].to = l[y].to)
              intro x hx hxj y hy
              rcases Nat.lt_or_ge x j with h1 | h1
              · exact HK.out x hx h1 y hy
              · obtain rfl : x = j := by omega
                exact HJ.out y (by omega) hy
            case measure => simp [RowKit.intOf]; omega
      · obtain rfl : i = l.length := by omega
        have hlt' : ¬ (l.length : Int) < (l.length : Int) := by omega
        have HDIS : RowKit.Hid (∀ x ∈ l, ∀ y ∈ l, x.fr = y.fr → x.to = y.to → x = y) := fun x hx y hy e1 e2 => by
          obtain ⟨p, hp, rfl⟩ := List.mem_iff_getElem.1 hx
          obtain ⟨q, hq, rfl⟩ := List.mem_iff_getElem.1 hy
          rcases Nat.lt_trichotomy p q with h | h | h
          · exact absurd ⟨e1.symm, e2.symm⟩ (HK.out q hq hq p h)
          · subst h; rfl
          · exact absurd ⟨e1, e2⟩ (HK.out p hp hp q h)
        rename World => wo
        have HIo := Lib.hid (HI3.out.later (hbw.mono (Nat.le_refl _)))
        have DO := Lib.hid (D3.out.trans (hbw.mono D3.out.size))
        have hN : Below wo.heap.size wo (wo.alloc (.cells #[] 50)) := (Below.refl _ wo).alloc (Nat.le_refl _) _
        have hown0 : (wo.alloc (.cells #[] 50)).ownsRow wo.heap.size 50 3 (.slice (some ⟨wo.heap.size, 0, none⟩) 0 0) 0 [] := ⟨rfl, .inr ⟨wo.heap.size, 0, #[], rfl, Nat.le_refl _, heap_alloc_new wo _, Nat.le_refl _, by decide, rfl, rfl⟩⟩
        clear HK hbw
        go_wp2_with fail
        go_loopw [11, 12] (fun tv iv wr => ∃ i : Nat, i ≤ l.length ∧ iv = .int .i64 i ∧ wr.ownsRow wo.heap.size 50 3 tv i (editCells (turnT l c i)) ∧ Below wo.heap.size wo wr) (fun _ iv _ => l.length - (RowKit.intOf iv).toNat)
        case atStart => exact ⟨0, Nat.zero_le _, rfl, hown0, hN⟩
        case round =>
          clear hown0 hN
          obtain ⟨i, hil, rfl, hown, hbw⟩ := hrel
          have zw := hbw.size
          by_cases hlt : i < l.length
          · have hlt' : (i : Int) < (l.length : Int) := by omega
            obtain ⟨d, hd⟩ : ∃ d, d = (i + c) % l.length := ⟨_, rfl⟩
            have hdl : d < l.length := by rw [hd]; exact Nat.mod_lt _ (by omega)
            have hm1 : ((i : Int) + (c : Int)) % (l.length : Int) = (d : Int) := by rw [hd]; push_cast; rfl
            have hm2 : ((i : Int) + (c : Int)).tmod (l.length : Int) = (d : Int) := by rw [Int.tmod_eq_emod_of_nonneg (by omega)]; exact hm1
            have hdl' : (d : Int) < (l.length : Int) := by omega
            have hln : ¬ (l.length : Int) = 0 := by omega
            have hln2 : ((l.length : Int) == 0) = false := beq_eq_false_iff_ne.2 hln
            have HTS : RowKit.Hid (turnT l c (i + 1) = turnT l c i ++ [l[d]]) := by
              show _ = _
              rw [turnT_succ, ← hd, getElem!_pos l d hdl]
            obtain ⟨g, off, rfl, hgl, -, hcc⟩ := (HIo.out.below hbw).at hdl
            obtain ⟨c0, c1, c2⟩ := hcc d hdl
            clear hcc hd
            generalize l[d] = x at *
            go_wp2_with (at_builtin; (refine wpList_append_own _ rfl _ _ 30 rfl wo.heap.size 50 i0 (.agg #[.int .i64 0, .int .i64 0, .string ⟨#[]⟩]) 3 32 Try.underlying30 hi hz0 hz1 hz2 rfl (by decide) _ _ _ rfl (hown.alloc _) ⟨wr.heap.size, 0, none⟩ 1 1 [.int .i64 x.fr, .int .i64 x.to, .string x.text] rfl rfl (new_three _ _ _ _ _) (one_cells x) (by unfold maxLen; omega) (by omega) (by simp; omega) ?_); intro v6 w6 hown6 hgrow6 _)
            go_roundw
            case rel => exact ⟨i + 1, by omega, by go_num, by rw [HTS.out, editCells_snoc]; exact hown6, (hbw.alloc zw _).grown hgrow6 (by simp; omega) (fun kk hk => (ownsRow_lt (hown.alloc (.cells #[.int .i64 x.fr, .int .i64 x.to, .string x.text] 50)) hk).1)⟩
            case measure => simp [RowKit.intOf]; omega
          · obtain rfl : i = l.length := by omega
            have hp := turnT_perm l c
            have hpl : (turnT l c l.length).length = l.length := turnT_length _ _ _
            have hss : ss ltE l = ss ltE (turnT l c l.length) := ss_distinct hp.symm HDIS.out
            have hck : checkP s.size (turnT l c l.length) = checkP s.size l := checkP_order hp hss.symm
            have har : applyR s (turnT l c l.length) = applyR s l := by unfold applyR; rw [hck, hss]
            have hA1 := HA.out l (.refl _)
            have hA2 := HA.out (turnT l c l.length) hp
            rw [hck, har] at hA2
            obtain ⟨a6, c6, rfl, hT⟩ := editsIn_of_owns (l := turnT l c l.length) (by rw [hpl]; exact hown)
            rw [hpl] at hT ⊢
            have hSL := ss_length ltE l
            have hI4 := HIo.out.later (hbw.mono (Nat.le_refl _))
            have d4 := DO.out.trans (hbw.mono DO.out.size)
            have hSo := fun (w1 : World) (h : EditsIn w1.heap.size w1 (.slice a6 l.length c6) (turnT l c l.length)) => sorted_any a6 c6 (turnT l c l.length) (by rw [hpl]; omega) w1 (by rw [hpl]; exact h)
            rw [hpl, ← hss] at hSo
            rw [hpl] at hA2
            generalize turnT l c l.length = T at *
            generalize applyR s l = t at *
            generalize checkP s.size l = ch at *
            clear hss hck har hp hpl hown hbw
            go_wp2_with fail
            refine (hCp wr hI4).mono ?_
            rintro e w5 ⟨⟨a5, c5, rfl, hO5⟩, b5⟩
            have hI5 := hI4.later b5
            have hT5 := hT.later b5
            have d5 := d4.trans (b5.mono d4.size)
            clear b5 hI4 hT d4
            go_wp2_with fail
            refine (hA1 a5 c5 w5 hO5).mono ?_
            rintro e w6 ⟨rfl, b6⟩
            have hI6 := hI5.later b6
            have hT6 := hT5.later b6
            have d6 := d5.trans (b6.mono d5.size)
            clear b6 hI5 hT5 d5 hO5
            go_wp2_with fail
            refine (hA2 a6 c6 w6 hT6).mono ?_
            rintro e w7 ⟨rfl, b7⟩
            have hI7 := hI6.later b7
            have hT7 := hT6.later b7
            have d7 := d6.trans (b7.mono d6.size)
            clear b7 hI6 hT6 d6
            go_wp2_with fail
            refine (sorted_any a cap l (by omega) w7 hI7).mono ?_
            rintro e w8 ⟨⟨a8, c8, rfl, hS8, -⟩, b8⟩
            have hT8 := hT7.later b8
            have d8 := d7.trans (b8.mono d7.size)
            clear b8 hI7 hT7 d7
            go_wp2_with fail
            refine (hSo w8 hT8).mono ?_
            rintro e w9 ⟨⟨a9, c9, rfl, hS9, -⟩, b9⟩
            have hS89 := hS8.later b9
            have d9 := d8.trans (b9.mono d8.size)
            clear b9 hS8 hT8 d8
            have kS := sameEdits_any a8 a9 c8 c9 (ss ltE l) (by omega) w9 (by rw [hSL]; exact hS89) (by rw [hSL]; exact hS9)
            rw [hSL] at kS
            clear hS89 hS9
            go_wp2_with fail
            refine kS.mono ?_
            rintro e w10 ⟨rfl, b10⟩
            go_wp2_with fail
            go_ret
            exact ⟨by first | rfl | simp, d9.trans (b10.mono d9.size)⟩
  · rw [hg] at hG
    go_enter Try.func11, Try.ntmps11
    go_wp2_with fail
    refine (editAlive_any _).mono ?_
    rintro e w1 ⟨rfl, b1⟩
    go_wp2_with fail
    refine (hG w1 (HI.out.later b1)).mono ?_
    rintro e w2 ⟨rfl, b2⟩
    go_wp2_with fail
    go_ret
    exact ⟨rfl, b1.trans (b2.mono b1.size)⟩
end editOrder
end Go.Proofs.Ytkhpoeolnhfflaa
