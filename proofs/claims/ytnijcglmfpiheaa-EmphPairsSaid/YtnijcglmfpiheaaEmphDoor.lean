/-
  What a read argument of rows of marks holds: an opened slice. Conditions: none beyond the form's own.
-/
import Derived.Test.YtnijcglmfpiheaaEmphAlive
import Derived.Deep.SlicePairs
import Derived.Deep.Strs
import Derived.SizedLaws
import Derived.Carry
set_option linter.unusedSimpArgs false
set_option linter.unusedVariables false
namespace Go.Proofs.Ytnijcglmfpiheaa
open Go.Shelf Go.RowKit Go.Lib Go.ChangeShapes Go.WideShapes

theorem cellsRun : Try.prog.cellsOf 42 = 4 := by kernel_rfl
theorem bytesRun : Try.prog.bytesOf 42 = 24 := by kernel_rfl
theorem runFields : ∃ f0 f1 f2 f3 : Field, Try.prog.underlying 42 = some (.struct #[f0, f1, f2, f3]) ∧ f0.type = 5 ∧ f1.type = 3 ∧ f2.type = 4 ∧ f3.type = 4 ∧ f0.offset = 0 ∧ f1.offset = 1 ∧ f2.offset = 2 ∧ f3.offset = 3 :=
  ⟨_, _, _, _, Try.underlying42, rfl, rfl, rfl, rfl, rfl, rfl, rfl, rfl⟩
theorem trod_struct4 {H : Type} {enc : TypeId × Value → H} {P : Program} {w : World} {base : Nat} {spare : Nat → Bool} {held : Bool} {t : TypeId} {f0 f1 f2 f3 : Field} {fuel : Nat} {cs : List Value} {x : DataW H × List MemPlace} (ht : P.underlying t = some (.struct #[f0, f1, f2, f3])) (h : DataW.trod enc P w base spare held fuel t cs = some x) :
    ∃ y0 y1 y2 y3 n, x = (.agg [y0.1, y1.1, y2.1, y3.1], y0.2 ++ (y1.2 ++ (y2.2 ++ y3.2))) ∧ cs.length = P.cellsOf t ∧ DataW.trod enc P w base spare held n f0.type ((cs.drop f0.offset).take (P.cellsOf f0.type)) = some y0 ∧
      DataW.trod enc P w base spare held n f1.type ((cs.drop f1.offset).take (P.cellsOf f1.type)) = some y1 ∧ DataW.trod enc P w base spare held n f2.type ((cs.drop f2.offset).take (P.cellsOf f2.type)) = some y2 ∧ DataW.trod enc P w base spare held n f3.type ((cs.drop f3.offset).take (P.cellsOf f3.type)) = some y3 := by
  obtain ⟨xs, n, _, rfl, hl, hlen, hf⟩ := DataW.trod_struct ht h
  match xs, hlen with
  | [y0, y1, y2, y3], _ => exact ⟨y0, y1, y2, y3, n, by simp, hl, by simpa using hf 0 f0 rfl, by simpa using hf 1 f1 rfl, by simpa using hf 2 f2 rfl, by simpa using hf 3 f3 rfl⟩


theorem run_open {H : Type} {enc : TypeId × Value → H} {W : World} {spare : Nat → Bool} {held : Bool} {n : Nat} {cs : List Value} {x : DataW H × List MemPlace} (h : DataW.trod enc Try.prog W 0 spare held n 42 cs = some x) (hw : ∀ m ∈ x.1.weights Try.prog 42, m ≤ reachBytes) :
    ∃ r : RunP, cs = runC r ∧ RunOk r := by
  obtain ⟨f0, f1, f2, f3, hu, t0, t1, t2, t3, o0, o1, o2, o3⟩ := runFields
  obtain ⟨y0, y1, y2, y3, k, rfl, hl, h0, h1, h2, h3⟩ := trod_struct4 hu h
  rw [cellsRun] at hl
  match cs, hl with
  | [v0, v1, v2, v3], _ =>
    rw [t0, o0, cells_u8] at h0
    rw [t1, o1, cells_int] at h1
    rw [t2, o2, cells_bool] at h2
    rw [t3, o3, cells_bool] at h3
    simp at h0 h1 h2 h3
    obtain ⟨a, e0, r0, w0⟩ := DataW.trod_int Try.underlying5 h0
    obtain ⟨b, e1, r1, w1⟩ := DataW.trod_int Try.underlying3 h1
    obtain ⟨c, e2, r2⟩ := DataW.trod_bool Try.underlying4 h2
    obtain ⟨d, e3, r3⟩ := DataW.trod_bool Try.underlying4 h3
    simp at e0 e1 e2 e3
    subst e0 e1 e2 e3
    exact ⟨⟨a, b, c, d⟩, rfl, w0, w1⟩

theorem weightsAll_mem {H : Type} {P : Program} {e : TypeId} : ∀ {l : List (DataW H)} {d : DataW H}, d ∈ l → ∀ n ∈ d.weights P e, n ∈ DataW.weightsAll P e l
  | d0 :: l, d, hd, n, hn => by
    rw [DataW.weightsAll]
    rcases List.mem_cons.1 hd with rfl | hd
    · exact List.mem_append_left _ hn
    · exact List.mem_append_right _ (weightsAll_mem hd n hn)

theorem runs_open {H : Type} {enc : TypeId × Value → H} {W : World} {spare : Nat → Bool} {held : Bool} {n : Nat} {cs : List Value} {x : DataW H × List MemPlace} (h : DataW.trod enc Try.prog W 0 spare held n 29 cs = some x) (hw : ∀ m ∈ x.1.weights Try.prog 29, m ≤ reachBytes) :
    ∃ (a : Option Addr) (l : List RunP) (cap : Nat), cs = [.slice a l.length cap] ∧ RunsIn W.heap.size W (.slice a l.length cap) l ∧ (∀ e ∈ l, RunOk e) ∧ l.length * 24 ≤ reachBytes := by
  rcases Deep.open_slice Try.underlying29 h with ⟨rfl, rfl⟩ | ⟨ad, len, cap, m, k, D, Pl, rfl, hb, hl, hm, hmm, rfl, hx⟩
  · have h0 : RunsIn W.heap.size W (.slice none 0 0) [] := ⟨none, 0, rfl, fun h => absurd rfl h⟩
    exact ⟨none, [], 0, rfl, h0, (fun e he => by cases he), by simp⟩
  · have hlm : len ≤ m := by rw [hmm]; split <;> omega
    have hwl : len * 24 ≤ reachBytes := by
      have := hw ((((List.range len).map D).length + ((List.range (m - len)).map fun j => D (len + j)).length) * Try.prog.bytesOf 42) (by simp [DataW.weights, (show Try.prog.underlying 29 = some (.slice 42) from Try.underlying29)])
      rw [bytesRun] at this
      simp at this
      omega
    have each : ∀ i, i < len → ∃ e : RunP, (∃ cs', W.cells? 0 (ad.add (i * 4)) 4 = some cs' ∧ cs' = runC e) ∧ RunOk e := by
      intro i hi
      obtain ⟨cs', h1, h2⟩ := hx i (by omega)
      rw [cellsRun] at h1
      obtain ⟨e, he, hok⟩ := run_open h2 (fun n hn => hw n (by
        simp only [DataW.weights, (show Try.prog.underlying 29 = some (.slice 42) from Try.underlying29)]
        exact List.mem_cons_of_mem _ (List.mem_append_left _ (weightsAll_mem (List.mem_map.2 ⟨i, List.mem_range.2 hi, rfl⟩) n hn))))
      exact ⟨e, ⟨cs', h1, he⟩, hok⟩
    obtain ⟨q, hq⟩ := Deep.choose_lt each
    refine ⟨some ad, (List.range len).map q, cap, by simp, ?_, fun e he => ?_, by simpa using hwl⟩
    · refine ⟨some ad, cap, by simp, fun hne => ?_⟩
      have h0 : 0 < len := by
        rcases Nat.eq_zero_or_pos len with rfl | h
        · exact absurd rfl hne
        · exact h
      have cellsOf : ∀ i, i < len → ∀ c, c < 4 → W.cell? (ad.add (i * 4 + c)) = (runC (q i))[c]? := fun i hi c hc => by
        obtain ⟨⟨cs', h1, he⟩, _⟩ := hq i hi
        obtain ⟨_, _, hcell⟩ := World.cells?_some h1
        have := hcell c hc
        rw [Deep.add_add, he] at this
        exact this
      have hc0 := cellsOf 0 h0 0 (by omega)
      rw [show 0 * 4 + 0 = 0 by omega, show ad.add 0 = ad from rfl] at hc0
      have hc0' : W.cell? ad = some (.int .u8 (q 0).mark) := hc0
      have hsp : ad.spot = none ∧ ad.block < W.heap.size := by
        unfold World.cell? at hc0'
        split at hc0'
        · rename_i c T F hb
          refine ⟨?_, (Array.getElem?_eq_some_iff.1 hb).1⟩
          cases hs : ad.spot with
          | none => rfl
          | some _ => simp [hs] at hc0'
        · cases hc0'
      obtain ⟨g, off, sp⟩ := ad
      obtain ⟨rfl, hg⟩ := hsp
      refine ⟨g, off, rfl, hg, fun j hj => ?_⟩
      have hj' : j < len := by simpa using hj
      have hel : ((List.range len).map q)[j] = q j := by simp
      have c0 := cellsOf j hj' 0 (by omega)
      have c1 := cellsOf j hj' 1 (by omega)
      have c2 := cellsOf j hj' 2 (by omega)
      have c3 := cellsOf j hj' 3 (by omega)
      rw [Addr.add_lit] at c0 c1 c2 c3
      rw [hel]
      exact ⟨c0, c1, c2, c3⟩
    · obtain ⟨i, hi, rfl⟩ := List.mem_map.1 he
      exact (hq i (List.mem_range.1 hi)).2
end Go.Proofs.Ytnijcglmfpiheaa
