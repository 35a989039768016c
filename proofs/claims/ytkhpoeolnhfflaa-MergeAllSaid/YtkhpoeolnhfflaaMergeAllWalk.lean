/-
  The walk of MergeAll: it returns true whatever the sizes. Conditions: the form's own bounds.
-/
import Derived.Test.YtkhpoeolnhfflaaMergeLaw
import Derived.Laws.BitsLemmas
set_option linter.unusedSimpArgs false
set_option linter.unusedVariables false
namespace Go.Proofs.Ytkhpoeolnhfflaa
open Go.Shelf Go.RowKit Go.Lib Go.Sort

theorem i64_and63 (n : Int) : bits .and .i64 n 63 = n % 64 := by
  have h127 : (BitVec.ofInt 64 63).toNat = 2 ^ 6 - 1 := by decide
  have key : (BitVec.ofInt 64 n &&& BitVec.ofInt 64 63).toNat = (n % ((2 ^ 64 : Nat) : Int)).toNat % 2 ^ 6 := by
    rw [BitVec.toNat_and, BitVec.toNat_ofInt, h127, Nat.and_two_pow_sub_one_eq_mod]
  show IntKind.i64.wrap ((BitVec.ofInt 64 n &&& BitVec.ofInt 64 63).toNat : Nat) = n % 64
  rw [key, IntKind.wrap_i64]
  omega

/-- One edit a finding, one behind the other. -/
def rowsF : Int → List Int → List FindP
  | _, [] => []
  | p, n :: t => oneF p (p + n % 64) :: rowsF (p + (n % 64 + 1)) t
def endF : Int → List Int → Int
  | p, [] => p
  | p, n :: t => endF (p + (n % 64 + 1)) t
theorem rowsF_len : ∀ (N : List Int) (p : Int), (rowsF p N).length = N.length
  | [], _ => rfl
  | n :: t, p => by rw [rowsF, List.length_cons, rowsF_len t, List.length_cons]
theorem rowsF_snoc : ∀ (N : List Int) (p n : Int), rowsF p (N ++ [n]) = rowsF p N ++ [oneF (endF p N) (endF p N + n % 64)]
  | [], p, n => rfl
  | m :: t, p, n => by rw [List.cons_append, rowsF, rowsF_snoc t, rowsF, endF]; rfl
theorem endF_snoc : ∀ (N : List Int) (p n : Int), endF p (N ++ [n]) = endF p N + (n % 64 + 1)
  | [], p, n => rfl
  | m :: t, p, n => by rw [List.cons_append, endF, endF_snoc t, endF]
theorem endF_bound : ∀ (N : List Int) (p : Int), p ≤ endF p N ∧ endF p N ≤ p + 64 * N.length
  | [], p => by simp [endF]
  | m :: t, p => by
    have := endF_bound t (p + (m % 64 + 1))
    rw [endF, List.length_cons]
    omega
theorem rowsF_mem : ∀ (N : List Int) (p : Int), ∀ f ∈ rowsF p N, ∃ q n, f = oneF q (q + n) ∧ p ≤ q ∧ 0 ≤ n
  | [], _, f, h => by cases h
  | m :: t, p, f, h => by
    rw [rowsF] at h
    rcases List.mem_cons.1 h with rfl | h
    · exact ⟨p, m % 64, rfl, Int.le_refl _, by omega⟩
    · obtain ⟨q, n, h1, h2, h3⟩ := rowsF_mem t _ f h
      exact ⟨q, n, h1, by omega, h3⟩
theorem oneF_edits (x y : Int) : (oneF x y).edits = [⟨x, y, ⟨#[]⟩⟩] := rfl
theorem rowsF_apart : ∀ (N : List Int) (p : Int), (rowsF p N).Pairwise fun f g => clashP g.edits f.edits = false
  | [], _ => .nil
  | m :: t, p => by
    rw [rowsF]
    refine .cons (fun g hg => ?_) (rowsF_apart t _)
    obtain ⟨q, n, rfl, h2, h3⟩ := rowsF_mem t _ g hg
    simp only [oneF_edits, clashP, List.any_cons, List.any_nil, Bool.or_false, clash1]
    simp only [Bool.or_eq_false_iff, Bool.and_eq_false_iff, decide_eq_false_iff_not]
    omega
theorem clash_flat (a : List EditP) : ∀ tk : List FindP, (∀ f ∈ tk, clashP a f.edits = false) → clashP a (tk.flatMap fun f => f.edits) = false
  | [], _ => clash_nil a
  | f :: t, h => by rw [List.flatMap_cons, clashP_append, h f (by simp), clash_flat a t fun g hg => h g (List.mem_cons_of_mem _ hg)]; rfl
theorem chooseF_all : ∀ (t pre : List FindP) (i : Nat) (ch : List Int), (pre ++ t).Pairwise (fun f g => clashP g.edits f.edits = false) → (chooseF t i ch (pre.flatMap fun f => f.edits)).1 = ch ++ (List.range' i t.length).map fun (x : Nat) => (x : Int)
  | [], pre, i, ch, _ => by simp [chooseF]
  | f :: t, pre, i, ch, h => by
    have h1 := (List.pairwise_append.1 h).2.2
    rw [chooseF, clash_flat f.edits pre fun g hg => h1 g hg f (by simp), if_neg (by simp)]
    have h2 := chooseF_all t (pre ++ [f]) (i + 1) (ch ++ [(i : Int)]) (by simpa using h)
    rw [List.flatMap_append, show ([f].flatMap fun f => f.edits) = f.edits by simp] at h2
    rw [h2]
    simp [List.range'_succ]
theorem choose_all {l : List FindP} (h : l.Pairwise fun f g => clashP g.edits f.edits = false) : chooseP l = (List.range' 0 l.length).map fun (x : Nat) => (x : Int) := by
  have := chooseF_all l [] 0 [] h
  simpa [chooseP] using this
theorem choose_all_len {l : List FindP} (h : l.Pairwise fun f g => clashP g.edits f.edits = false) : (chooseP l).length = l.length := by rw [choose_all h]; simp
theorem editsF_range (l : List FindP) : ∀ (k i : Nat), i + k ≤ l.length → editsF l ((List.range' i k).map fun (x : Nat) => (x : Int)) = ((l.drop i).take k).flatMap fun f => f.edits
  | 0, i, _ => by simp [editsF]
  | k + 1, i, h => by
    rw [List.range'_succ, List.map_cons, editsF, editsF_range l k (i + 1) (by omega), if_pos (by omega), Int.toNat_natCast, getElem!_pos l i (by omega), List.drop_eq_getElem_cons (show i < l.length by omega), List.take_succ_cons, List.flatMap_cons]
theorem editsF_all {l : List FindP} (h : l.Pairwise fun f g => clashP g.edits f.edits = false) : editsF l (chooseP l) = l.flatMap fun f => f.edits := by
  rw [choose_all h, editsF_range l l.length 0 (by omega), List.drop_zero, List.take_length]
theorem rev_apart {l : List FindP} (h : l.Pairwise fun f g => clashP g.edits f.edits = false) : l.reverse.Pairwise fun f g => clashP g.edits f.edits = false :=
  List.pairwise_reverse.2 (h.imp fun h => by rw [clashP_comm]; exact h)
theorem all_same (N : List Int) : ss ltE (editsF (rowsF 0 N) (chooseP (rowsF 0 N))) = ss ltE (editsF (rowsF 0 N).reverse (chooseP (rowsF 0 N).reverse)) := by
  have h := rowsF_apart N 0
  rw [editsF_all h, editsF_all (rev_apart h)]
  refine ss_distinct (List.Perm.flatMap_right _ (List.reverse_perm _).symm) fun x hx y hy h1 h2 => ?_
  obtain ⟨f, hf, hx⟩ := List.mem_flatMap.1 hx
  obtain ⟨g, hg, hy⟩ := List.mem_flatMap.1 hy
  obtain ⟨q, n, rfl, -⟩ := rowsF_mem N 0 f hf
  obtain ⟨q', n', rfl, -⟩ := rowsF_mem N 0 g hg
  rw [oneF_edits] at hx hy
  obtain rfl := List.mem_singleton.1 hx
  obtain rfl := List.mem_singleton.1 hy
  simp only at h1 h2
  obtain rfl : n = n' := by omega
  rw [h1]
theorem rows_tot (N : List Int) (p : Int) : totE (rowsF p N) = N.length := by
  induction N generalizing p with
  | nil => rfl
  | cons m t ih =>
    have := ih (p + (m % 64 + 1))
    simp only [rowsF, totE, List.map_cons, List.sum_cons, List.length_cons] at this ⊢
    rw [this, oneF_edits]; simp; omega
theorem totE_rev (l : List FindP) : totE l.reverse = totE l := by unfold totE; rw [List.map_reverse, List.sum_reverse]
theorem rows_one {N : List Int} {p : Int} {f : FindP} (h : f ∈ rowsF p N) : f.edits.length = 1 := by
  obtain ⟨q, n, rfl, -⟩ := rowsF_mem N p f h
  rfl
theorem rev_step {l : List FindP} {k : Nat} (h : k < l.length) : (l.drop k).reverse = (l.drop (k + 1)).reverse ++ [l[k]] := by
  rw [List.drop_eq_getElem_cons h, List.reverse_cons]

/-- What an own row of findings holds whose edits lie anywhere. -/
theorem findsIn_of_owns2 {w : World} {base : Nat} {v : Value} {rs : List (FindP × Value)} (h : w.ownsRow base 37 4 v rs.length (findCells rs)) (hE : ∀ r ∈ rs, EditsIn w.heap.size w r.2 r.1.edits) : FindsIn w.heap.size w v (rs.map Prod.fst) := by
  rcases h.2 with ⟨rfl, h0⟩ | ⟨g, cap, cur, rfl, hg, hh, hc, hm, hs, ht⟩
  · obtain rfl := List.length_eq_zero_iff.1 h0
    exact ⟨none, 0, rfl, fun h => absurd rfl h⟩
  · refine ⟨_, cap, by rw [List.length_map], fun _ => ⟨g, 0, rfl, (Array.getElem?_eq_some_iff.1 hh).1, fun j hj => ?_⟩⟩
    have hj' : j < rs.length := by simpa using hj
    have cellAt : ∀ c, c < 4 → w.cell? ⟨g, 0 + j * 4 + c, none⟩ = (findC rs[j])[c]? := fun c hc4 => by
      have h1 := findCells_get rs j hj' c hc4
      rw [← ht, List.getElem?_take_of_lt (by omega)] at h1
      simp only [World.cell?, hh]
      rw [← h1]; simp
    have hI := hE rs[j] (List.getElem_mem hj')
    obtain ⟨a, ca, hv, -⟩ := id hI
    have hf : (rs.map Prod.fst)[j] = rs[j].1 := by simp
    rw [hf]
    refine ⟨by simpa [findC] using cellAt 0 (by omega), by simpa [findC] using cellAt 1 (by omega), by simpa [findC] using cellAt 2 (by omega), a, ca, ?_, hv ▸ hI⟩
    rw [← hv]
    simpa [findC] using cellAt 3 (by omega)

namespace mergeAll
set_option maxHeartbeats 16000000 in
set_option maxRecDepth 100000 in
theorem walk (a : Option Addr) (N : List Int) (cap : Nat) (_hl : N.length * 8 ≤ reachBytes) (hwf : ∀ n ∈ N, (Lit.int .i64 n).wf = true) (w : World) (hI : IntsIn w.heap.size w (.slice a N.length cap) N) :
    Calls Try.prog 6 #[.slice a N.length cap] w fun e w' => e = .returned (.bool true) ∧ Below w.heap.size w w' := by
  have HI := Lib.hid hI
  have mixed : Try.prog.follows Departure.mixedOrders = true := rfl
  obtain ⟨i0, hi, hz0, hz1, hz2⟩ := info_parts infoFind
  clear hI _hl hwf
  by_cases h100 : 100 < N.length
  · have h100' : (100 : Int) < (N.length : Int) := by omega
    go_enter Try.func6, Try.ntmps6
    go_wp2_with fail
    refine (mergeAlive_any _).mono ?_
    rintro e w1 ⟨rfl, b1⟩
    go_wp2_with fail
    go_ret
    exact ⟨rfl, b1⟩
  · have h100' : ¬ (100 : Int) < (N.length : Int) := by omega
    have hrl := rowsF_len N 0
    have hap := rowsF_apart N 0
    have har := rev_apart hap
    have hc1 := choose_all_len hap
    have hc2 := choose_all_len har
    have htE := rows_tot N 0
    have htR := totE_rev (rowsF 0 N)
    have hls : (rowsF 0 N).reverse.length = (rowsF 0 N).length := List.length_reverse
    have hone : ∀ f ∈ rowsF 0 N, f.edits.length ≤ 1000 := fun f hf => by rw [rows_one hf]; omega
    have hone2 : ∀ f ∈ (rowsF 0 N).reverse, f.edits.length ≤ 1000 := fun f hf => hone f (List.mem_reverse.1 hf)
    have hsame := all_same N
    have he1 := editsF_len (rowsF 0 N) hone (chooseP (rowsF 0 N))
    have HLT : RowKit.Hid (∀ i (h : i < N.length), rowsF 0 (N.take (i + 1)) = rowsF 0 (N.take i) ++ [oneF (endF 0 (N.take i)) (endF 0 (N.take i) + N[i] % 64)] ∧ endF 0 (N.take (i + 1)) = endF 0 (N.take i) + (N[i] % 64 + 1) ∧ 0 ≤ endF 0 (N.take i) ∧ endF 0 (N.take i) ≤ 64 * 100) := fun i h => by
      have hb := endF_bound (N.take i) 0
      rw [List.length_take] at hb
      rw [List.take_succ_eq_append_getElem h]
      exact ⟨rowsF_snoc _ _ _, endF_snoc _ _ _, by omega, by omega⟩
    have HTL : RowKit.Hid (rowsF 0 (N.take N.length) = rowsF 0 N) := by rw [List.take_length]; exact rfl
    have HRT : RowKit.Hid (∀ i, (rowsF 0 (N.take i)).length ≤ i) := fun i => by rw [rowsF_len, List.length_take]; omega
    go_enter Try.func6, Try.ntmps6
    go_wp2_with fail
    refine (mergeAlive_any _).mono ?_
    rintro e w1 ⟨rfl, b1⟩
    have hN : Below w.heap.size w (w1.alloc (.cells #[] 37)) := b1.alloc b1.size _
    have z1 := b1.size
    have hown : (w1.alloc (.cells #[] 37)).ownsRow w.heap.size 37 4 (.slice (some ⟨w1.heap.size, 0, none⟩) 0 0) ([] : List (FindP × Value)).length (findCells []) := ⟨rfl, .inr ⟨w1.heap.size, 0, #[], rfl, z1, heap_alloc_new w1 _, Nat.le_refl _, by decide, rfl, rfl⟩⟩
    go_wp2_with fail
    go_loopw [3, 4, 5, 6] (fun lv av iv _ wr => ∃ (i : Nat) (rs : List (FindP × Value)), i ≤ N.length ∧ av = .int .i64 (endF 0 (N.take i)) ∧ iv = .int .i64 i ∧ wr.ownsRow w.heap.size 37 4 lv rs.length (findCells rs) ∧ Below w.heap.size w wr ∧ rs.length ≤ i ∧ RowKit.Hid (rs.map Prod.fst = rowsF 0 (N.take i)) ∧ RowKit.Hid (∀ r ∈ rs, EditsT wr r.2 r.1.edits)) (fun _ _ iv _ _ => N.length - (RowKit.intOf iv).toNat)
    case atStart => exact ⟨0, [], Nat.zero_le _, rfl, rfl, hown, hN, Nat.le_refl _, rfl, (fun r hr => by cases hr)⟩
    case round =>
      clear hN hown b1
      obtain ⟨i, rs, hi2, rfl, rfl, hoR, hb, hrl2, HM, HR⟩ := hrel
      have zw := hb.size
      obtain ⟨aR, cR, rfl, -⟩ := ownsRow_slice hoR
      by_cases hlt : i < N.length
      · have hlt' : (i : Int) < (N.length : Int) := by omega
        obtain ⟨k1, k2, k3, k4⟩ := HLT.out i hlt
        obtain ⟨g, off, rfl, hgl, -, hc⟩ := (HI.out.below hb).at hlt
        have hv := hc i hlt
        clear hc
        generalize N[i] = n at *
        have hn0 : 0 ≤ n % 64 := by omega
        have hn1 : n % 64 < 64 := by omega
        have ha63 := i64_and63 n
        have HK1 := Lib.hid k1
        have HK2 := Lib.hid k2
        clear k1 k2
        generalize endF 0 (N.take i) = p at *
        generalize n % 64 = m at *
        have hf0 := func0_any p (p + m) wr
        go_wp2_with fail
        refine hf0.mono ?_
        rintro e w2 ⟨⟨L, rfl, hL, hE⟩, b2⟩
        have z2 := b2.size
        have hoR2 := (ownsRow_below hoR b2).alloc (.cells #[.int .i64 0, .int .i64 0, .int .i64 0, .slice (some ⟨L, 0, none⟩) 1 1] 37)
        have hb2 := (hb.trans (b2.mono zw)).alloc (by omega) (.cells #[.int .i64 0, .int .i64 0, .int .i64 0, .slice (some ⟨L, 0, none⟩) 1 1] 37)
        have hNew := new_four w2 37 (.int .i64 0) (.int .i64 0) (.int .i64 0) (.slice (some ⟨L, 0, none⟩) 1 1)
        have hal : Below w2.heap.size w2 (w2.alloc (.cells #[.int .i64 0, .int .i64 0, .int .i64 0, .slice (some ⟨L, 0, none⟩) 1 1] 37)) := (Below.refl _ w2).alloc (Nat.le_refl _) _
        have hT4 := hE.later hal
        have HR4 : RowKit.Hid (∀ r ∈ rs, EditsT (w2.alloc (.cells #[.int .i64 0, .int .i64 0, .int .i64 0, .slice (some ⟨L, 0, none⟩) 1 1] 37)) r.2 r.1.edits) := fun r hr => ((HR.out r hr).later b2).later hal
        have hzb := hb2.size
        go_wp2_with (at_builtin; (refine wpList_append_own _ rfl _ _ 22 rfl w.heap.size 37 i0 (.agg #[.int .i64 0, .int .i64 0, .int .i64 0, .slice none 0 0]) 4 48 Try.underlying22 hi hz0 hz1 hz2 rfl (by decide) _ _ _ rfl hoR2 ⟨w2.heap.size, 0, none⟩ 1 1 [.int .i64 0, .int .i64 0, .int .i64 0, .slice (some ⟨L, 0, none⟩) 1 1] rfl rfl hNew (one_four _ _ _ _ _ _) (by unfold maxLen; omega) (by omega) hzb ?_); intro v5 w5 hR5 hg5 _)
        have hty := ownsRow_typed hoR2
        have hB5 := below_own hb2 hzb hoR2 hg5
        have HR5 : RowKit.Hid (∀ r ∈ rs ++ [(oneF p (p + m), Value.slice (some ⟨L, 0, none⟩) 1 1)], EditsT w5 r.2 r.1.edits) := fun r hr => by
          rcases List.mem_append.1 hr with h | h
          · exact (HR4.out r h).grown hg5 (by decide) hty
          · rw [List.mem_singleton.1 h]; exact hT4.grown hg5 (by decide) hty
        have hR6 : w5.ownsRow w.heap.size 37 4 v5 (rs ++ [(oneF p (p + m), Value.slice (some ⟨L, 0, none⟩) 1 1)]).length (findCells (rs ++ [(oneF p (p + m), Value.slice (some ⟨L, 0, none⟩) 1 1)])) := by
          rw [findCells_snoc, List.length_append]; exact hR5
        have HM5 : RowKit.Hid ((rs ++ [(oneF p (p + m), Value.slice (some ⟨L, 0, none⟩) 1 1)]).map Prod.fst = rowsF 0 (N.take (i + 1))) := by
          rw [List.map_append, HM.out, HK1.out]; exact rfl
        have hpm : p + (m + 1) = endF 0 (N.take (i + 1)) := HK2.out.symm
        go_roundw
        case rel => exact ⟨i + 1, _, by omega, by rw [← hpm], by go_num, hR6, hB5, by simp; omega, HM5.out, HR5.out⟩
        case measure => simp [RowKit.intOf]; omega
      · obtain rfl : i = N.length := by omega
        rename World => wo
        have hM : rs.map Prod.fst = rowsF 0 N := HM.out.trans HTL.out
        have hF := findsIn_of_owns hoR HR.out
        rw [hM] at hF
        have hrs : rs.length = (rowsF 0 N).length := by rw [← hM, List.length_map]
        rw [hrs] at hF
        rw [hrs]
        have hl100 : (rowsF 0 N).length ≤ 100 := by omega
        have htE2 : totE (rowsF 0 N) ≤ 100 := by omega
        have htR2 : totE (rowsF 0 N).reverse ≤ 100 := by omega
        clear hM hrs htE htR hrl hrl2 HM HR hoR HLT HTL HRT
        generalize endF 0 (N.take N.length) = pe at *
        clear hap har
        generalize hl : rowsF 0 N = l at *
        clear hl
        have hN : Below wo.heap.size wo (wo.alloc (.cells #[] 37)) := (Below.refl _ _).alloc (Nat.le_refl _) _
        have hown : (wo.alloc (.cells #[] 37)).ownsRow wo.heap.size 37 4 (.slice (some ⟨wo.heap.size, 0, none⟩) 0 0) ([] : List (FindP × Value)).length (findCells []) := ⟨rfl, .inr ⟨wo.heap.size, 0, #[], rfl, Nat.le_refl _, heap_alloc_new wo _, Nat.le_refl _, by decide, rfl, rfl⟩⟩
        have HF := Lib.hid hF
        have HB := Lib.hid hb
        clear hF hb
        go_wp2_with fail
        go_loopw [7, 8] (fun bv iv wx => ∃ (k : Nat) (rs : List (FindP × Value)), k ≤ l.length ∧ iv = .int .i64 ((k : Int) - 1) ∧ wx.ownsRow wo.heap.size 37 4 bv rs.length (findCells rs) ∧ Below wo.heap.size wo wx ∧ rs.length ≤ l.length ∧ RowKit.Hid (rs.map Prod.fst = (l.drop k).reverse) ∧ RowKit.Hid (∀ r ∈ rs, EditsIn wo.heap.size wo r.2 r.1.edits)) (fun _ iv _ => (RowKit.intOf iv + 1).toNat)
        case atStart => exact ⟨l.length, [], Nat.le_refl _, by first | rfl | go_num, hown, hN, by simp, by simp [RowKit.Hid], (fun r hr => by cases hr)⟩
        case round =>
          clear hN hown
          obtain ⟨k, rs, hk, rfl, hoR, hbx, hrl2, HM, HR⟩ := hrel
          rename World => wx
          have zx := hbx.size
          obtain ⟨aR, cR, rfl, -⟩ := ownsRow_slice hoR
          by_cases hk0 : k = 0
          · subst hk0
            have hM : rs.map Prod.fst = l.reverse := HM.out
            have hR2 := findsIn_of_owns2 hoR fun r hr => (HR.out r hr).later0 hbx
            rw [hM] at hR2
            have hrs : rs.length = l.reverse.length := by rw [← hM, List.length_map]
            have hF2 := HF.out.later hbx
            have HB2 := Lib.hid (HB.out.trans (hbx.mono HB.out.size))
            have hk1 := fun (a1 : Option Addr) (c1 : Nat) (w1 : World) (h : FindsIn w1.heap.size w1 (.slice a1 l.length c1) l) => mergeChoose_any a1 c1 l (by omega) (by omega) w1 h
            have hk2 := fun (a1 : Option Addr) (c1 : Nat) (w1 : World) (h : FindsIn w1.heap.size w1 (.slice a1 l.reverse.length c1) l.reverse) => mergeChoose_any a1 c1 l.reverse (by omega) (by omega) w1 h
            have hk3 := fun (a1 a2 : Option Addr) (c1 c2 : Nat) (w1 : World) (h1 : FindsIn w1.heap.size w1 (.slice a1 l.length c1) l) (h2 : IntsIn w1.heap.size w1 (.slice a2 (chooseP l).length c2) (chooseP l)) => mergeEdits_any a1 a2 c1 c2 l (chooseP l) (by omega) (by omega) hone w1 h1 h2
            have hk4 := fun (a1 a2 : Option Addr) (c1 c2 : Nat) (w1 : World) (h1 : FindsIn w1.heap.size w1 (.slice a1 l.reverse.length c1) l.reverse) (h2 : IntsIn w1.heap.size w1 (.slice a2 (chooseP l.reverse).length c2) (chooseP l.reverse)) => mergeEdits_any a1 a2 c1 c2 l.reverse (chooseP l.reverse) (by omega) (by omega) hone2 w1 h1 h2
            have hz1' := ss_length ltE (editsF l (chooseP l))
            have hz2' := ss_length ltE (editsF l.reverse (chooseP l.reverse))
            have hzz : (editsF l.reverse (chooseP l.reverse)).length = (editsF l (chooseP l)).length := by rw [← hz1', ← hz2', hsame]
            rw [← hsame, hzz] at hk4
            have hk5 := fun (a1 a2 : Option Addr) (c1 c2 : Nat) (w1 : World) (h1 : EditsIn w1.heap.size w1 (.slice a1 (editsF l (chooseP l)).length c1) (ss ltE (editsF l (chooseP l)))) (h2 : EditsIn w1.heap.size w1 (.slice a2 (editsF l (chooseP l)).length c2) (ss ltE (editsF l (chooseP l)))) => by
              rw [← hz1'] at h1 h2
              have := sameEditsQ_any a1 a2 c1 c2 (ss ltE (editsF l (chooseP l))) (by rw [hz1']; omega) w1 h1 h2
              rw [hz1'] at this
              exact this
            rw [hc1] at hk1 hk3
            rw [hc2, hls] at hk2 hk4
            rw [hls] at hrs
            rw [hrs] at hR2
            rw [hrs]
            clear hoR hM HM HR hbx hone hone2 htE2 htR2 he1 hz1' hz2' hzz hsame
            generalize chooseP l = C1 at *
            generalize chooseP l.reverse = C2 at *
            generalize editsF l C1 = E at *
            generalize ss ltE E = S at *
            generalize l.reverse = lr at *
            clear hc1 hc2 hls hrs hrl2
            go_wp2_with fail
            refine (hk1 _ _ _ hF2).mono ?_
            rintro e w4 ⟨⟨a4, c4, rfl, hC4⟩, b4⟩
            have hF4 := hF2.later b4
            have hR4 := hR2.later b4
            clear hF2 hR2
            go_wp2_with fail
            refine (hk2 _ _ _ hR4).mono ?_
            rintro e w5 ⟨⟨a5, c5, rfl, hC5⟩, b5⟩
            have hF5 := hF4.later b5
            have hR5 := hR4.later b5
            have hC45 := hC4.later b5
            have d5 := b4.trans (b5.mono b4.size)
            clear hF4 hR4 hC4 b4 b5
            go_wp2_with fail
            refine (hk3 _ _ _ _ _ hF5 hC45).mono ?_
            rintro e w6 ⟨⟨a6, c6, rfl, hE6⟩, b6⟩
            have hR6 := hR5.later b6
            have hC6 := hC5.later b6
            have d6 := d5.trans (b6.mono d5.size)
            clear hF5 hC45 hR5 hC5 d5 b6
            go_wp2_with fail
            refine (hk4 _ _ _ _ _ hR6 hC6).mono ?_
            rintro e w7 ⟨⟨a7, c7, rfl, hE7⟩, b7⟩
            have hE67 := hE6.later0 b7
            have d7 := d6.trans (b7.mono d6.size)
            clear hR6 hC6 hE6 d6 b7
            go_wp2_with fail
            refine (hk5 _ _ _ _ _ hE67 hE7).mono ?_
            rintro e w8 ⟨rfl, q8, rfl⟩
            go_wp2_with fail
            go_ret
            exact ⟨by first | rfl | simp, below_drewN (HB2.out.trans (d7.mono HB2.out.size))⟩
          · obtain ⟨j, rfl⟩ : ∃ j, k = j + 1 := ⟨k - 1, by omega⟩
            have hj : j < l.length := by omega
            have hj' : (j : Int) < (l.length : Int) := by omega
            have hkj : ((j + 1 : Nat) : Int) - 1 = (j : Int) := by omega
            have HRS := Lib.hid (rev_step hj)
            rw [hkj]
            obtain ⟨g, off, eg, hgl, -, hc⟩ := (HF.out.below hbx).at hj
            obtain ⟨c0, c1, c2, aE, cE, c3, -⟩ := hc j hj
            clear hc
            obtain ⟨g', off', eg', -, -, hc⟩ := HF.out.at hj
            have egg := eg.symm.trans eg'
            injection egg with egg
            injection egg with e1 e2
            subst e1 e2
            obtain ⟨-, -, -, aE', cE', c3', hE⟩ := hc j hj
            have c3'' := (hbx.cell (p := ⟨g, off + j * 4 + 3, none⟩) hgl).trans c3'
            rw [c3] at c3''
            injection c3'' with c3''
            injection c3'' with e1 e2 e3
            subst e1 e3
            clear hc c3'
            have HE := Lib.hid hE
            clear hE
            generalize l[j] = f at *
            obtain ⟨x0, x1, x2, x3⟩ := f
            simp only at c0 c1 c2 c3
            cases eg
            have hoR2 := hoR.alloc (.cells #[.int .i64 x0, .int .i64 x1, .int .i64 x2, .slice aE x3.length cE] 37)
            have hb2 := hbx.alloc zx (.cells #[.int .i64 x0, .int .i64 x1, .int .i64 x2, .slice aE x3.length cE] 37)
            have hNew := new_four wx 37 (.int .i64 x0) (.int .i64 x1) (.int .i64 x2) (.slice aE x3.length cE)
            have hzb := hb2.size
            have hrl3 : rs.length = l.length - (j + 1) := by
              have := congrArg List.length HM.out
              simpa using this
            go_wp2_with (at_builtin; (refine wpList_append_own _ rfl _ _ 22 rfl wo.heap.size 37 i0 (.agg #[.int .i64 0, .int .i64 0, .int .i64 0, .slice none 0 0]) 4 48 Try.underlying22 hi hz0 hz1 hz2 rfl (by decide) _ _ _ rfl hoR2 ⟨wx.heap.size, 0, none⟩ 1 1 [.int .i64 x0, .int .i64 x1, .int .i64 x2, .slice aE x3.length cE] rfl rfl hNew (one_four _ _ _ _ _ _) (by unfold maxLen; omega) (by omega) hzb ?_); intro v5 w5 hR5 hg5 _)
            have hB5 := below_own hb2 hzb hoR2 hg5
            have HR5 : RowKit.Hid (∀ r ∈ rs ++ [((⟨x0, x1, x2, x3⟩ : FindP), Value.slice aE x3.length cE)], EditsIn wo.heap.size wo r.2 r.1.edits) := fun r hr => by
              rcases List.mem_append.1 hr with h | h
              · exact HR.out r h
              · rw [List.mem_singleton.1 h]; exact HE.out
            have hR6 : w5.ownsRow wo.heap.size 37 4 v5 (rs ++ [((⟨x0, x1, x2, x3⟩ : FindP), Value.slice aE x3.length cE)]).length (findCells (rs ++ [((⟨x0, x1, x2, x3⟩ : FindP), Value.slice aE x3.length cE)])) := by
              rw [findCells_snoc, List.length_append]; exact hR5
            have HM5 : RowKit.Hid ((rs ++ [((⟨x0, x1, x2, x3⟩ : FindP), Value.slice aE x3.length cE)]).map Prod.fst = (l.drop j).reverse) := by
              rw [List.map_append, HM.out, HRS.out]; exact rfl
            go_roundw
            case rel => exact ⟨j, rs ++ [((⟨x0, x1, x2, x3⟩ : FindP), Value.slice aE x3.length cE)], by omega, by go_num, hR6, hB5, by simp; omega, HM5.out, HR5.out⟩
            case measure => first | (simp [RowKit.intOf]; done) | (simp [RowKit.intOf]; omega)
end mergeAll
end Go.Proofs.Ytkhpoeolnhfflaa
