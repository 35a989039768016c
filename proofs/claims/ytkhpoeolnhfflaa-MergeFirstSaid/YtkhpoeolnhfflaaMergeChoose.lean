/-
  merge.Choose and merge.Edits. Conditions: at most 1000 findings, 1000000 edits.
-/
import Derived.Test.YtkhpoeolnhfflaaMergeFinds
import Derived.Test.YtkhpoeolnhfflaaMergeClash
import Derived.Test.YtkhpoeolnhfflaaEditSort
set_option linter.unusedSimpArgs false
set_option linter.unusedVariables false
namespace Go.Proofs.Ytkhpoeolnhfflaa
open Go.Shelf Go.RowKit Go.Lib Go.Sort

def totE (l : List FindP) : Nat := (l.map fun f => f.edits.length).sum
/-- What is chosen, and the edits that are taken. -/
def chooseF : List FindP → Nat → List Int → List EditP → List Int × List EditP
  | [], _, ch, tk => (ch, tk)
  | f :: t, i, ch, tk => if clashP f.edits tk then chooseF t (i + 1) ch tk else chooseF t (i + 1) (ch ++ [(i : Int)]) (tk ++ f.edits)
def chooseP (l : List FindP) : List Int := (chooseF l 0 [] []).1
/-- The edits of some findings. -/
def editsF (l : List FindP) : List Int → List EditP
  | [] => []
  | c :: t => (if 0 ≤ c ∧ c < l.length then l[c.toNat]!.edits else []) ++ editsF l t

theorem block_four {w : World} {L : Nat} {a b c d : Value} {T : TypeId} {F : Nat × Nat} (h : w.heap[L]? = some (.cells #[a, b, c, d] T F)) :
    w.cell? ⟨L, 0, none⟩ = some a ∧ w.cell? ⟨L, 1, none⟩ = some b ∧ w.cell? ⟨L, 2, none⟩ = some c ∧ w.cell? ⟨L, 3, none⟩ = some d := by
  simp [World.cell?, h]
theorem totE_drop {l : List FindP} {k : Nat} (h : k < l.length) : totE (l.drop k) = l[k].edits.length + totE (l.drop (k + 1)) := by
  rw [List.drop_eq_getElem_cons h]; rfl
theorem typed_ne {w : World} {k g : Nat} {c1 c2 : Array Value} {T1 T2 : TypeId} {f1 f2 : Nat × Nat} (h1 : w.heap[k]? = some (.cells c1 T1 f1)) (h2 : w.heap[g]? = some (.cells c2 T2 f2)) (hT : T1 ≠ T2) : k ≠ g := by
  rintro rfl
  rw [h1] at h2
  simp only [Option.some.injEq, Obj.cells.injEq] at h2
  exact hT h2.2.1
theorem grown_block {w w' : World} {k : Nat} {c1 : Array Value} {T1 T2 : TypeId} {f1 : Nat × Nat} {row : Option Nat} (hg : w.grownBy w' row) (h1 : w.heap[k]? = some (.cells c1 T1 f1)) (hr : ∀ g, row = some g → ∃ c fz, w.heap[g]? = some (.cells c T2 fz)) (hT : T1 ≠ T2) : w'.heap[k]? = some (.cells c1 T1 f1) := by
  rw [← h1]
  refine hg.block k (Array.getElem?_eq_some_iff.1 h1).1 fun e => ?_
  obtain ⟨c, fz, h2⟩ := hr k e.symm
  exact typed_ne h1 h2 hT rfl
theorem own_snocI {w : World} {base : Nat} {v : Value} {N : List Int} {x : Int} (h : w.ownsRow base 3 1 v (N.length + 1) (intCells N ++ [.int .i64 x])) : w.ownsRow base 3 1 v (N ++ [x]).length (intCells (N ++ [x])) := by
  rw [intCells_snoc, List.length_append]; exact h
/-- A row that the call owns, below what has come since. -/
theorem below_own {w w1 w2 : World} {base n size : Nat} {e : TypeId} {v : Value} {xs : List Value} (hb : Below base w w1) (hbase : base ≤ w1.heap.size) (h : w1.ownsRow base e size v n xs) (hg : w1.grownBy w2 v.ownBlock) : Below base w w2 :=
  hb.grown hg hbase (fun kk hk => (ownsRow_lt h hk).1)

set_option maxRecDepth 100000 in
set_option maxHeartbeats 8000000 in
theorem mergeChoose_cap (a : Option Addr) (cap : Nat) (l : List FindP) (hl : l.length ≤ 1000) (he : totE l ≤ 1000000) (w : World) (hI : FindsIn w.heap.size w (.slice a l.length cap) l) :
    Calls Try.prog 17 #[.slice a l.length cap] w fun e w' => (∃ a' cap', e = .returned (.slice a' (chooseP l).length cap') ∧ (chooseP l).length ≤ cap' ∧ IntsIn w'.heap.size w' (.slice a' (chooseP l).length cap') (chooseP l)) ∧ Below w.heap.size w w' := by
  have HI := Lib.hid hI
  have mixed : Try.prog.follows Departure.mixedOrders = true := rfl
  clear hI
  go_enter Try.func17, Try.ntmps17
  go_wp2
  go_loopw [3, 4, 9] (fun cv tv iv wr => ∃ (k : Nat) (ch : List Int) (tk : List EditP), k ≤ l.length ∧ iv = .int .i64 k ∧ wr.ownsRow w.heap.size 3 1 cv ch.length (intCells ch) ∧ wr.ownsRow w.heap.size 50 3 tv tk.length (editCells tk) ∧ Below w.heap.size w wr ∧ ch.length ≤ k ∧ tk.length + totE (l.drop k) ≤ 1000000 ∧
      RowKit.Hid (chooseF (l.drop k) k ch tk = chooseF l 0 [] [])) (fun _ _ iv _ => l.length - (RowKit.intOf iv).toNat)
  case atStart => exact ⟨0, [], [], Nat.zero_le _, rfl, World.ownsRow_nil _ _ _ _, World.ownsRow_nil _ _ _ _, Below.refl _ _, Nat.le_refl _, by simpa using he, rfl⟩
  case round =>
    obtain ⟨k, ch, tk, hk, rfl, hoC, hoT, hbw, hcl, htl, HF⟩ := hrel
    by_cases hlt : k < l.length
    · have hlt' : (k : Int) < (l.length : Int) := by omega
      have zw := hbw.size
      obtain ⟨aC, cC, rfl, -⟩ := ownsRow_slice hoC
      obtain ⟨aT, cT, rfl, -⟩ := ownsRow_slice hoT
      have HCS : RowKit.Hid (chooseF (l.drop k) k ch tk = if clashP l[k].edits tk then chooseF (l.drop (k + 1)) (k + 1) ch tk else chooseF (l.drop (k + 1)) (k + 1) (ch ++ [(k : Int)]) (tk ++ l[k].edits)) := by
        show _ = _
        rw [List.drop_eq_getElem_cons hlt, chooseF]
      rw [totE_drop hlt] at htl
      obtain ⟨g, off, rfl, hg, -, hc⟩ := (HI.out.below hbw).at hlt
      obtain ⟨c0, c1, c2, aE, cE, c3, hE⟩ := hc k hlt
      clear hc
      generalize l[k] = f at *
      obtain ⟨x0, x1, x2, x3⟩ := f
      simp only at c0 c1 c2 c3 hE htl
      have hN := heap_alloc_new wr (.cells #[.int .i64 x0, .int .i64 x1, .int .i64 x2, .slice aE x3.length cE] 37)
      have hNB : Below wr.heap.size wr (wr.alloc (.cells #[.int .i64 x0, .int .i64 x1, .int .i64 x2, .slice aE x3.length cE] 37)) := (Below.refl _ wr).alloc (Nat.le_refl _) _
      have hNz : (wr.alloc (.cells #[.int .i64 x0, .int .i64 x1, .int .i64 x2, .slice aE x3.length cE] 37)).heap.size = wr.heap.size + 1 := by simp
      have hkC := mergeClash_any aE aT cE cT x3 tk (by omega) (by omega) _ ((hE.below (hNB.mono zw)).mono (by omega)) ((editsIn_of_owns (hoT.alloc _)).choose_spec.choose_spec.2)
      have HB1 := Lib.hid (hbw.trans (hNB.mono zw))
      have HO1 := Lib.hid (hoC.alloc (.cells #[.int .i64 x0, .int .i64 x1, .int .i64 x2, .slice aE x3.length cE] 37))
      have HO2 := Lib.hid (hoT.alloc (.cells #[.int .i64 x0, .int .i64 x1, .int .i64 x2, .slice aE x3.length cE] 37))
      have HN := Lib.hid hN
      have HE := Lib.hid (hE.below (hNB.mono zw))
      clear hN hNB hE hoC hoT hbw
      cases hcl2 : clashP x3 tk
      · rw [hcl2] at hkC HCS
        go_wp2_with fail
        refine hkC.mono ?_
        clear hkC
        rintro e w2 ⟨rfl, b2⟩
        have z2 := b2.size
        have hS2 : w2.heap[wr.heap.size]? = some (.cells #[.int .i64 x0, .int .i64 x1, .int .i64 x2, .slice aE x3.length cE] 37) := (b2.block _ (by omega)).trans HN.out
        have hB2 := HB1.out.trans (b2.mono (by omega))
        have hC2 := ownsRow_below HO1.out b2
        have hT2 := ownsRow_below HO2.out b2
        have hE2 := HE.out.below (b2.mono (by omega))
        have hNa : IntsIn (w2.heap.size + 1) (w2.alloc (.cells #[.int .i64 (k : Int)] 3)) (.slice (some ⟨w2.heap.size, 0, none⟩) ([(k : Int)] : List Int).length 1) [(k : Int)] := intsIn_new w2 k
        have hzl : ([(k : Int)] : List Int).length = 1 := rfl
        have HA : ∀ w4 : World, (w2.alloc (.cells #[.int .i64 (k : Int)] 3)).grownBy w4 (Value.slice aC ch.length cC).ownBlock → w4.cell? ⟨wr.heap.size, 3, none⟩ = some (.slice aE x3.length cE) ∧ w4.ownsRow w.heap.size 50 3 (.slice aT tk.length cT) tk.length (editCells tk) ∧ Below w.heap.size w w4 ∧ EditsIn w.heap.size w4 (.slice aE x3.length cE) x3 := fun w4 hg4 => by
          have hty := ownsRow_typed (hC2.alloc (.cells #[.int .i64 (k : Int)] 3))
          have hS4 := grown_block (T2 := 3) hg4 ((heap_alloc_old w2 _ (show wr.heap.size < w2.heap.size by omega)).trans hS2) hty (by decide)
          exact ⟨(block_four hS4).2.2.2, ownsRow_unlike (hT2.alloc _) hg4 (by decide) hty, below_own (hB2.alloc (by omega) _) (by simp; omega) (hC2.alloc _) hg4, hE2.below (below_own ((Below.refl _ w2).alloc (by omega) _) (by simp; omega) (hC2.alloc _) hg4)⟩
        go_wp2_with (first
          | (at_builtin; (refine wpList_append_ints rfl _ _ rfl w.heap.size _ ch rfl (hC2.alloc _) (some ⟨w2.heap.size, 0, none⟩) [(k : Int)] 1 rfl hNa (by omega) (by simp) (by simp; omega) ?_); intro v4 w4 hC4 hg4; obtain ⟨d3, hT4, hB4, hE4⟩ := HA w4 hg4; have hz4 := hB4.size)
          | (at_builtin; (refine wpList_append_edits rfl _ _ rfl w.heap.size _ tk rfl hT4 aE x3 cE rfl hE4 (by omega) (by omega) (by omega) ?_); intro v5 w5 hT5 hg5))
        have hB5 := below_own hB4 hz4 hT4 hg5
        have hC5 := ownsRow_unlike hC4 hg5 (by decide) (ownsRow_typed hT4)
        go_roundw
        case rel => exact ⟨k + 1, ch ++ [(k : Int)], tk ++ x3, by omega, by go_num, hC5, hT5, hB5, by simp; omega, by rw [List.length_append]; omega, HCS.out.symm.trans HF.out⟩
        case measure => simp [RowKit.intOf]; omega
      · rw [hcl2] at hkC HCS
        go_wp2_with fail
        refine hkC.mono ?_
        clear hkC
        rintro e w2 ⟨rfl, b2⟩
        have z2 := b2.size
        have hB2 := HB1.out.trans (b2.mono (by omega))
        have hC2 := ownsRow_below HO1.out b2
        have hT2 := ownsRow_below HO2.out b2
        go_wp2_with fail
        go_roundw
        case rel => exact ⟨k + 1, ch, tk, by omega, by go_num, hC2, hT2, hB2, by omega, by omega, HCS.out.symm.trans HF.out⟩
        case measure => simp [RowKit.intOf]; omega
    · obtain rfl : k = l.length := by omega
      have HCH0 : RowKit.Hid (chooseP l = ch) := by
        show _ = _
        unfold chooseP
        rw [← HF.out, List.drop_length]; rfl
      obtain ⟨aC, cC, rfl, hcap⟩ := ownsRow_slice hoC
      have hres := intsIn_of_owns hoC
      have HCAP := Lib.hid hcap
      clear hcap
      go_wp2
      go_ret
      rw [HCH0.out]
      exact ⟨⟨_, _, rfl, HCAP.out, hres⟩, hbw⟩
theorem mergeChoose_any (a : Option Addr) (cap : Nat) (l : List FindP) (hl : l.length ≤ 1000) (he : totE l ≤ 1000000) (w : World) (hI : FindsIn w.heap.size w (.slice a l.length cap) l) :
    Calls Try.prog 17 #[.slice a l.length cap] w fun e w' => (∃ a' cap', e = .returned (.slice a' (chooseP l).length cap') ∧ IntsIn w'.heap.size w' (.slice a' (chooseP l).length cap') (chooseP l)) ∧ Below w.heap.size w w' :=
  (mergeChoose_cap a cap l hl he w hI).mono fun e w' ⟨⟨a', c', h1, _, h2⟩, h3⟩ => ⟨⟨a', c', h1, h2⟩, h3⟩
end Go.Proofs.Ytkhpoeolnhfflaa
