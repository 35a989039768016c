/-
  The walk of EditParts: it returns true whatever the text and the edits. Conditions: the form's own bounds.
-/
import Derived.Test.YtkhpoeolnhfflaaEditOutsideWalk
set_option linter.unusedSimpArgs false
set_option linter.unusedVariables false
namespace Go.Proofs.Ytkhpoeolnhfflaa
open Go.Shelf Go.RowKit Go.Lib Go.Sort

/-- One edit in a new block. -/
theorem one_edit {w : World} {L : Nat} {a : EditP} {F : Nat × Nat} (h : w.heap[L]? = some (.cells #[.int .i64 a.fr, .int .i64 a.to, .string a.text] 50 F)) (n : Nat) (hL : L < n) : EditsIn n w (.slice (some ⟨L, 0, none⟩) [a].length 1) [a] := by
  refine ⟨_, _, rfl, fun _ => ⟨L, 0, rfl, hL, fun j hj => ?_⟩⟩
  match j, hj with
  | 0, _ => exact ⟨by simp [World.cell?, h], by simp [World.cell?, h], by simp [World.cell?, h]⟩
theorem chain_drop {n : Nat} : ∀ (S : List EditP) (p k : Nat) (h : k < S.length), Chain n p S → Chain n 0 (S[k] :: S.drop (k + 1))
  | e :: t, p, 0, _, ⟨h1, h2, h3, h4⟩ => ⟨by show ((0 : Nat) : Int) ≤ e.fr; omega, h2, h3, h4⟩
  | e :: t, p, k + 1, h, ⟨_, _, _, h4⟩ => by
    exact chain_drop t _ k (Nat.lt_of_succ_lt_succ h) h4
theorem chain_zero {n : Nat} : ∀ (S : List EditP) (p : Nat), Chain n p S → Chain n 0 S
  | [], p, _ => Nat.zero_le _
  | e :: t, p, ⟨h1, h2, h3, h4⟩ => ⟨by show ((0 : Nat) : Int) ≤ e.fr; omega, h2, h3, h4⟩
theorem sum_le : ∀ (S : List EditP), (∀ e ∈ S, e.fr ≤ e.to) → (S.map fun e => (e.text.size : Int) - (e.to - e.fr)).sum ≤ ((S.map fun e => e.text.size + 1).sum : Nat)
  | [], _ => by simp
  | e :: t, h => by
    have ih := sum_le t (fun x hx => h x (List.mem_cons_of_mem _ hx))
    have := h e (by simp)
    simp only [List.map_cons, List.sum_cons]
    omega
theorem sum_drop : ∀ (S : List EditP) (k : Nat), ((S.drop k).map fun e => e.text.size + 1).sum ≤ (S.map fun e => e.text.size + 1).sum
  | [], k => by simp
  | e :: t, 0 => by simp
  | e :: t, k + 1 => by
    have := sum_drop t k
    simp only [List.drop_succ_cons, List.map_cons, List.sum_cons]; omega
theorem sum_perm2 {a b : List EditP} (h : a.Perm b) : (a.map fun e => e.text.size + 1).sum = (b.map fun e => e.text.size + 1).sum := by
  induction h with
  | nil => rfl
  | cons x _ ih => simp [ih]
  | swap x y l => simp; omega
  | trans _ _ i j => exact i.trans j

namespace editParts
set_option maxHeartbeats 8000000 in
set_option maxRecDepth 100000 in
theorem walk (s : ByteArray) (hs : s.size ≤ reachBytes) (a : Option Addr) (l : List EditP) (cap : Nat) (hl : l.length * 32 ≤ reachBytes) (hx : ∀ e ∈ l, EditOk e) (w : World) (hI : EditsIn w.heap.size w (.slice a l.length cap) l) :
    Calls Try.prog 12 #[.string s, .slice a l.length cap] w fun e w' => e = .returned (.bool true) ∧ Below w.heap.size w w' := by
  have hG := fun (w1 : World) (h : EditsIn w1.heap.size w1 (.slice a l.length cap) l) => great_any s hs a cap l hl (fun e he => (hx e he).text) w1 h
  have HI := Lib.hid hI
  clear hI hl hx hs
  cases hg : greatP s.size l
  · rw [hg] at hG
    obtain ⟨g1, g2, g3⟩ := great_false hg
    have hwt : s.size + (l.map fun e => e.text.size + 1).sum ≤ 50000 := by
      unfold greatP at hg
      simp only [Bool.or_eq_false_iff, decide_eq_false_iff_not] at hg
      exact weigh_total l s.size (by omega)
    clear hg
    have hA := fun (a1 : Option Addr) (c1 : Nat) (w1 : World) (h : EditsIn w1.heap.size w1 (.slice a1 l.length c1) l) => editApply_any s (by omega) a1 c1 l (by omega) (fun e he => by have := g2 e he; omega) w1 h
    have hCp := fun (w1 : World) (h : EditsIn w1.heap.size w1 (.slice a l.length cap) l) => copyEdits_any a cap l (by omega) w1 h
    by_cases hch : checkP s.size l = 0
    · have hcn := chain_checked hch
      have hll := list_len s
      rw [← hll] at hcn
      have HR : RowKit.Hid (applyR s l = ⟨(applyB s.data.toList 0 ((ss ltE l).drop 0)).toArray⟩) := by show _ = _; unfold applyR; rw [if_pos hch]; rfl
      have hSo := fun (a1 : Option Addr) (c1 : Nat) (w1 : World) (h : EditsIn w1.heap.size w1 (.slice a1 l.length c1) l) => sorted_any a1 c1 l (by omega) w1 h
      have hSL := ss_length ltE l
      have hsum : (((ss ltE l)).map fun e => e.text.size + 1).sum + s.size ≤ 50000 := by rw [sum_perm2 (ss_perm ltE l)]; omega
      rw [hch] at hA
      generalize hSS : ss ltE l = S at *
      clear hSS
      -- the text when the last edits are made
      have HT : RowKit.Hid (∀ k, (applyB s.data.toList 0 (S.drop k)).length ≤ 100000) := fun k => by
        have hck : Chain s.data.toList.length 0 (S.drop k) := by
          rcases Nat.lt_or_ge k S.length with h | h
          · rw [List.drop_eq_getElem_cons h]; exact chain_drop S 0 k h hcn
          · rw [List.drop_of_length_le h]; exact Nat.zero_le _
        have h1 := apply_length s.data.toList (S.drop k) 0 hck
        have h2 := sum_le (S.drop k) (fun e he => (chain_all _ _ hck e he).2.1)
        have h3 := sum_drop S k
        omega
      have HSTEP : RowKit.Hid (∀ k (h : k < S.length), checkP (applyB s.data.toList 0 (S.drop (k + 1))).length [S[k]] = 0 ∧ applyB (applyB s.data.toList 0 (S.drop (k + 1))) 0 [S[k]] = applyB s.data.toList 0 (S.drop k)) := fun k h => by
        have hck := chain_drop S 0 k h hcn
        have h1 := apply_one s.data.toList S[k] (S.drop (k + 1)) hck
        rw [← List.drop_eq_getElem_cons h] at h1
        refine ⟨?_, h1⟩
        obtain ⟨q1, q2, q3, q4⟩ := hck
        have hT : applyB s.data.toList 0 (S.drop (k + 1)) = s.data.toList.take S[k].to.toNat ++ applyB s.data.toList S[k].to.toNat (S.drop (k + 1)) := by
          have := apply_head s.data.toList (S.drop (k + 1)) 0 S[k].to.toNat (Nat.zero_le _) q4
          simpa using this
        have hlen : (S[k].to : Int) ≤ ((applyB s.data.toList 0 (S.drop (k + 1))).length : Int) := by
          rw [hT, List.length_append, List.length_take]; omega
        have hbad : badE (applyB s.data.toList 0 (S.drop (k + 1))).length S[k] = false := by
          simp only [badE, Bool.or_eq_false_iff, decide_eq_false_iff_not]
          omega
        unfold checkP
        simp [hbad, ss, ins, lapP]
      have HX : RowKit.Hid (∀ e ∈ S, e.text.size ≤ 1000000) := fun e he => by
        have h1 : ∀ (L : List EditP), e ∈ L → e.text.size ≤ (L.map fun e => e.text.size + 1).sum := by
          intro L
          induction L with
          | nil => intro h; cases h
          | cons x t ih =>
            intro h
            simp only [List.map_cons, List.sum_cons]
            rcases List.mem_cons.1 h with rfl | h
            · omega
            · have := ih h; omega
        have := h1 S he
        omega
      have HST : RowKit.Hid (s = ⟨(applyB s.data.toList 0 (S.drop S.length)).toArray⟩) := by
        show _ = _
        rw [List.drop_length]
        simp only [applyB, List.drop_zero]
      clear hcn hll hsum hwt g2 hch
      generalize applyR s l = t at *
      go_enter Try.func12, Try.ntmps12
      go_wp2_with fail
      refine (editAlive_any _).mono ?_
      rintro e w1 ⟨rfl, b1⟩
      have hI1 := HI.out.later b1
      go_wp2_with fail
      refine (hG w1 hI1).mono ?_
      rintro e w2 ⟨rfl, b2⟩
      have hI2 := hI1.later b2
      have d2 := b1.trans (b2.mono b1.size)
      clear b1 b2 hI1
      go_wp2_with fail
      refine (hCp w2 hI2).mono ?_
      rintro e w3 ⟨⟨a3, c3, rfl, hO3⟩, b3⟩
      have hI3 := hI2.later b3
      have d3 := d2.trans (b3.mono d2.size)
      clear b3 hI2 d2
      go_wp2_with fail
      refine (hA a3 c3 w3 hO3).mono ?_
      rintro e w4 ⟨rfl, b4⟩
      have hI4 := hI3.later b4
      have d4 := d3.trans (b4.mono d3.size)
      clear b4 hI3 hO3 d3
      go_wp2_with fail
      refine (hCp w4 hI4).mono ?_
      rintro e w5 ⟨⟨a5, c5, rfl, hO5⟩, b5⟩
      have d5 := d4.trans (b5.mono d4.size)
      clear b5 hI4 d4
      go_wp2_with fail
      refine (hSo a5 c5 w5 hO5).mono ?_
      rintro e w6 ⟨⟨a6, c6, rfl, hS6, -⟩, b6⟩
      have D6 := Lib.hid (d5.trans (b6.mono d5.size))
      have HS6 := Lib.hid hS6
      have HSL := Lib.hid hSL
      clear b6 hO5 d5 hS6 hSL
      go_wp2_with fail
      go_loopw [8, 9, 10, 11] (fun tv iv _ _ wr => ∃ (k : Nat) (x : Int), k ≤ l.length ∧ x = (k : Int) - 1 ∧ iv = .int .i64 x ∧ tv = .string ⟨(applyB s.data.toList 0 (S.drop k)).toArray⟩ ∧ Below w6.heap.size w6 wr) (fun _ iv _ _ _ => (RowKit.intOf iv + 1).toNat)
      case atStart => exact ⟨l.length, (l.length : Int) - 1, Nat.le_refl _, rfl, rfl, congrArg Value.string (by rw [← HSL.out]; exact HST.out), Below.refl _ _⟩
      case round =>
        obtain ⟨k, x, hk, hxk, rfl, rfl, hbw⟩ := hrel
        have HXK := Lib.hid hxk
        rcases k with _ | m
        · have hx0 : x < 0 := by omega
          have hx1 : ¬ 0 ≤ x := by omega
          clear hxk
          have HRR := HR.out
          go_wp2_with fail
          go_ret
          exact ⟨by first | rfl | (simp; done) | (rw [HRR]; simp), D6.out.trans (hbw.mono D6.out.size)⟩
        · obtain rfl : x = (m : Int) := by omega
          clear hxk HXK
          have hml : m < l.length := by omega
          have hmli : (m : Int) < (l.length : Int) := by omega
          have hmS : m < S.length := by rw [HSL.out]; exact hml
          obtain ⟨hck, hap⟩ := HSTEP.out m hmS
          have hTl := HT.out (m + 1)
          have hxt := HX.out S[m] (List.getElem_mem hmS)
          obtain ⟨g, off, rfl, hgl, -, hc⟩ := (HS6.out.below hbw).at hmS
          obtain ⟨c0, c1, c2⟩ := hc m hmS
          have zw := hbw.size
          clear hc
          generalize S[m] = e at *
          have HTN := Lib.hid hap
          generalize applyB s.data.toList 0 (S.drop (m + 1)) = T at *
          have hts : (⟨T.toArray⟩ : ByteArray).size = T.length := by show T.toArray.size = _; simp
          have hN := heap_alloc_new wr (.cells #[.int .i64 e.fr, .int .i64 e.to, .string e.text] 50)
          have hNB : Below wr.heap.size wr (wr.alloc (.cells #[.int .i64 e.fr, .int .i64 e.to, .string e.text] 50)) := (Below.refl _ wr).alloc (Nat.le_refl _) _
          have kA := editApply_ok ⟨T.toArray⟩ (by rw [hts]; omega) (some ⟨wr.heap.size, 0, none⟩) 1 [e] (by simp) (fun e' he' => by rw [List.mem_singleton.1 he']; exact hxt) (wr.alloc (.cells #[.int .i64 e.fr, .int .i64 e.to, .string e.text] 50)) (one_edit (a := e) hN _ (by simp)) (by rw [hts]; exact hck)
          rw [show ss ltE [e] = [e] from rfl, show (⟨T.toArray⟩ : ByteArray).data.toList = T by simp, hap] at kA
          clear hck hap hN
          go_wp2_with fail
          refine kA.mono ?_
          clear kA
          rintro e w7 ⟨rfl, b7⟩
          go_wp2_with fail
          go_roundw
          case rel => exact ⟨m, (m : Int) - 1, by omega, rfl, by go_num, rfl, (hbw.alloc zw _).trans (b7.mono (by first | (simp; done) | (simp; omega)))⟩
          case measure => first | (simp [RowKit.intOf]; done) | (simp [RowKit.intOf]; omega)
    · have hR : applyR s l = ⟨#[]⟩ := by unfold applyR; rw [if_neg hch]
      rw [hR] at hA
      generalize checkP s.size l = c at *
      have hcb : (c == 0) = false := beq_eq_false_iff_ne.2 hch
      have hcb2 : (c != 0) = true := bne_iff_ne.2 hch
      go_enter Try.func12, Try.ntmps12
      go_wp2_with fail
      refine (editAlive_any _).mono ?_
      rintro e w1 ⟨rfl, b1⟩
      have hI1 := HI.out.later b1
      go_wp2_with fail
      refine (hG w1 hI1).mono ?_
      rintro e w2 ⟨rfl, b2⟩
      have hI2 := hI1.later b2
      have d2 := b1.trans (b2.mono b1.size)
      go_wp2_with fail
      refine (hCp w2 hI2).mono ?_
      rintro e w3 ⟨⟨a3, c3, rfl, hO3⟩, b3⟩
      have d3 := d2.trans (b3.mono d2.size)
      go_wp2_with fail
      refine (hA a3 c3 w3 hO3).mono ?_
      rintro e w4 ⟨rfl, b4⟩
      go_wp2_with fail
      go_ret
      exact ⟨by first | rfl | simp, d3.trans (b4.mono d3.size)⟩
  · rw [hg] at hG
    go_enter Try.func12, Try.ntmps12
    go_wp2_with fail
    refine (editAlive_any _).mono ?_
    rintro e w1 ⟨rfl, b1⟩
    go_wp2_with fail
    refine (hG w1 (HI.out.later b1)).mono ?_
    rintro e w2 ⟨rfl, b2⟩
    go_wp2_with fail
    go_ret
    exact ⟨rfl, b1.trans (b2.mono b1.size)⟩
end editParts
end Go.Proofs.Ytkhpoeolnhfflaa
