/-
  What a read argument of findings, of numbers holds: an opened slice. Conditions: none beyond the form's own.
-/
import Derived.Test.YtkhpoeolnhfflaaEditDoor
import Derived.Test.YtkhpoeolnhfflaaMergeRow
set_option linter.unusedSimpArgs false
set_option linter.unusedVariables false
namespace Go.Proofs.Ytkhpoeolnhfflaa
open Go.Shelf Go.RowKit Go.Lib Go.ChangeShapes Go.WideShapes

theorem cellsFind : Try.prog.cellsOf 37 = 4 := by kernel_rfl
theorem bytesFind : Try.prog.bytesOf 37 = 48 := by kernel_rfl
theorem bytesInt : Try.prog.bytesOf 3 = 8 := by kernel_rfl
theorem cellsEdits : Try.prog.cellsOf 30 = 1 := by kernel_rfl
theorem findFields : ∃ f0 f1 f2 f3 : Field, Try.prog.underlying 37 = some (.struct #[f0, f1, f2, f3]) ∧ f0.type = 3 ∧ f1.type = 3 ∧ f2.type = 3 ∧ f3.type = 30 ∧ f0.offset = 0 ∧ f1.offset = 1 ∧ f2.offset = 2 ∧ f3.offset = 3 :=
  ⟨_, _, _, _, Try.underlying37, rfl, rfl, rfl, rfl, rfl, rfl, rfl, rfl⟩

/-- A finding within the form's bounds. -/
structure FindOk (f : FindP) : Prop where
  edits : ∀ e ∈ f.edits, EditOk e
  len : f.edits.length * 32 ≤ reachBytes

theorem trod_struct4 {H : Type} {enc : TypeId × Value → H} {P : Program} {w : World} {base : Nat} {spare : Nat → Bool} {held : Bool} {t : TypeId} {f0 f1 f2 f3 : Field} {fuel : Nat} {cs : List Value} {x : DataW H × List MemPlace} (ht : P.underlying t = some (.struct #[f0, f1, f2, f3])) (h : DataW.trod enc P w base spare held fuel t cs = some x) :
    ∃ y0 y1 y2 y3 n, x = (.agg [y0.1, y1.1, y2.1, y3.1], y0.2 ++ (y1.2 ++ (y2.2 ++ y3.2))) ∧ cs.length = P.cellsOf t ∧ DataW.trod enc P w base spare held n f0.type ((cs.drop f0.offset).take (P.cellsOf f0.type)) = some y0 ∧
      DataW.trod enc P w base spare held n f1.type ((cs.drop f1.offset).take (P.cellsOf f1.type)) = some y1 ∧ DataW.trod enc P w base spare held n f2.type ((cs.drop f2.offset).take (P.cellsOf f2.type)) = some y2 ∧ DataW.trod enc P w base spare held n f3.type ((cs.drop f3.offset).take (P.cellsOf f3.type)) = some y3 := by
  obtain ⟨xs, n, _, rfl, hl, hlen, hf⟩ := DataW.trod_struct ht h
  match xs, hlen with
  | [y0, y1, y2, y3], _ => exact ⟨y0, y1, y2, y3, n, by simp, hl, by simpa using hf 0 f0 rfl, by simpa using hf 1 f1 rfl, by simpa using hf 2 f2 rfl, by simpa using hf 3 f3 rfl⟩

theorem find_open {H : Type} {enc : TypeId × Value → H} {W : World} {spare : Nat → Bool} {held : Bool} {n : Nat} {cs : List Value} {x : DataW H × List MemPlace} (h : DataW.trod enc Try.prog W 0 spare held n 37 cs = some x) (hw : ∀ m ∈ x.1.weights Try.prog 37, m ≤ reachBytes) :
    ∃ (f : FindP) (a : Option Addr) (cap : Nat), cs = [.int .i64 f.rule, .int .i64 f.fr, .int .i64 f.to, .slice a f.edits.length cap] ∧ EditsIn W.heap.size W (.slice a f.edits.length cap) f.edits ∧ FindOk f := by
  obtain ⟨f0, f1, f2, f3, hu, t0, t1, t2, t3, o0, o1, o2, o3⟩ := findFields
  obtain ⟨y0, y1, y2, y3, k, rfl, hl, h0, h1, h2, h3⟩ := trod_struct4 hu h
  rw [cellsFind] at hl
  match cs, hl with
  | [v0, v1, v2, v3], _ =>
    rw [t0, o0, cellsInt] at h0
    rw [t1, o1, cellsInt] at h1
    rw [t2, o2, cellsInt] at h2
    rw [t3, o3, cellsEdits] at h3
    simp at h0 h1 h2 h3
    obtain ⟨a, e0, r0, w0⟩ := DataW.trod_int Try.underlying3 h0
    obtain ⟨b, e1, r1, w1⟩ := DataW.trod_int Try.underlying3 h1
    obtain ⟨c, e2, r2, w2⟩ := DataW.trod_int Try.underlying3 h2
    obtain ⟨ao, l, cap, e3, hI, hok, hlen⟩ := edits_open h3 (fun m hm => hw m (by
      simp only [DataW.weights, hu, DataW.weightsEach]
      simp [t3, hm, DataW.weightsEach]))
    simp at e0 e1 e2 e3
    subst e0 e1 e2 e3
    exact ⟨⟨a, b, c, l⟩, ao, cap, rfl, hI, hok, hlen⟩

theorem findings_open {H : Type} {enc : TypeId × Value → H} {W : World} {spare : Nat → Bool} {held : Bool} {n : Nat} {cs : List Value} {x : DataW H × List MemPlace} (h : DataW.trod enc Try.prog W 0 spare held n 22 cs = some x) (hw : ∀ m ∈ x.1.weights Try.prog 22, m ≤ reachBytes) :
    ∃ (a : Option Addr) (l : List FindP) (cap : Nat), cs = [.slice a l.length cap] ∧ FindsIn W.heap.size W (.slice a l.length cap) l ∧ (∀ f ∈ l, FindOk f) ∧ l.length * 48 ≤ reachBytes := by
  rcases Deep.open_slice Try.underlying22 h with ⟨rfl, rfl⟩ | ⟨ad, len, cap, m, k, D, Pl, rfl, hb, hl, hm, hmm, rfl, hx⟩
  · have h0 : FindsIn W.heap.size W (.slice none 0 0) [] := ⟨none, 0, rfl, fun h => absurd rfl h⟩
    exact ⟨none, [], 0, rfl, h0, (fun e he => by cases he), by simp⟩
  · have hlm : len ≤ m := by rw [hmm]; split <;> omega
    have hu : Try.prog.underlying 22 = some (.slice 37) := Try.underlying22
    have hwl : len * 48 ≤ reachBytes := by
      have := hw ((((List.range len).map D).length + ((List.range (m - len)).map fun j => D (len + j)).length) * Try.prog.bytesOf 37) (by simp [DataW.weights, hu])
      rw [bytesFind] at this
      simp at this
      omega
    have each : ∀ i, i < len → ∃ q : FindP × Option Addr × Nat, W.cells? 0 (ad.add (i * 4)) 4 = some [.int .i64 q.1.rule, .int .i64 q.1.fr, .int .i64 q.1.to, .slice q.2.1 q.1.edits.length q.2.2] ∧ EditsIn W.heap.size W (.slice q.2.1 q.1.edits.length q.2.2) q.1.edits ∧ FindOk q.1 := by
      intro i hi
      obtain ⟨cs', h1, h2⟩ := hx i (by omega)
      rw [cellsFind] at h1
      obtain ⟨f, a', cap', he, hI, hok⟩ := find_open h2 (fun n hn => hw n (by
        simp only [DataW.weights, hu]
        exact List.mem_cons_of_mem _ (List.mem_append_left _ (weightsAll_mem (List.mem_map.2 ⟨i, List.mem_range.2 hi, rfl⟩) n hn))))
      exact ⟨⟨f, a', cap'⟩, by rw [h1, he], hI, hok⟩
    obtain ⟨q, hq⟩ := Deep.choose_lt each
    refine ⟨some ad, (List.range len).map fun i => (q i).1, cap, by simp, ?_, fun e he => ?_, by simpa using hwl⟩
    · refine ⟨some ad, cap, by simp, fun hne => ?_⟩
      have h0 : 0 < len := by
        rcases Nat.eq_zero_or_pos len with rfl | h
        · exact absurd rfl hne
        · exact h
      have cellsOf : ∀ i, i < len → ∀ c, c < 4 → W.cell? (ad.add (i * 4 + c)) = ([.int .i64 (q i).1.rule, .int .i64 (q i).1.fr, .int .i64 (q i).1.to, .slice (q i).2.1 (q i).1.edits.length (q i).2.2] : List Value)[c]? := fun i hi c hc => by
        obtain ⟨h1, _⟩ := hq i hi
        obtain ⟨_, _, hcell⟩ := World.cells?_some h1
        have := hcell c hc
        rw [Deep.add_add] at this
        exact this
      have hc0 := cellsOf 0 h0 0 (by omega)
      rw [show 0 * 4 + 0 = 0 by omega, show ad.add 0 = ad from rfl] at hc0
      have hc0' : W.cell? ad = some (.int .i64 (q 0).1.rule) := hc0
      have hsp : ad.spot = none ∧ ad.block < W.heap.size := by
        unfold World.cell? at hc0'
        split at hc0'
        · rename_i c T F hb
          refine ⟨?_, (Array.getElem?_eq_some_iff.1 hb).1⟩
          cases hs : ad.spot with
          | none => rfl
          | some _ => simp [hs] at hc0'
        · cases hc0'
      obtain ⟨g, off, sp⟩ := ad
      obtain ⟨rfl, hg⟩ := hsp
      refine ⟨g, off, rfl, hg, fun j hj => ?_⟩
      have hj' : j < len := by simpa using hj
      have hel : ((List.range len).map fun i => (q i).1)[j] = (q j).1 := by simp
      have c0 := cellsOf j hj' 0 (by omega)
      have c1 := cellsOf j hj' 1 (by omega)
      have c2 := cellsOf j hj' 2 (by omega)
      have c3 := cellsOf j hj' 3 (by omega)
      rw [add_plain] at c0 c1 c2 c3
      rw [hel]
      exact ⟨c0, c1, c2, _, _, c3, (hq j hj').2.1⟩
    · obtain ⟨i, hi, rfl⟩ := List.mem_map.1 he
      exact (hq i (List.mem_range.1 hi)).2.2

theorem ints_open {H : Type} {enc : TypeId × Value → H} {W : World} {spare : Nat → Bool} {held : Bool} {n : Nat} {cs : List Value} {x : DataW H × List MemPlace} (h : DataW.trod enc Try.prog W 0 spare held n 27 cs = some x) (hw : ∀ m ∈ x.1.weights Try.prog 27, m ≤ reachBytes) :
    ∃ (a : Option Addr) (l : List Int) (cap : Nat), cs = [.slice a l.length cap] ∧ IntsIn W.heap.size W (.slice a l.length cap) l ∧ (∀ e ∈ l, (Lit.int .i64 e).wf = true) ∧ l.length * 8 ≤ reachBytes := by
  rcases Deep.open_slice Try.underlying27 h with ⟨rfl, rfl⟩ | ⟨ad, len, cap, m, k, D, Pl, rfl, hb, hl, hm, hmm, rfl, hx⟩
  · have h0 : IntsIn W.heap.size W (.slice none 0 0) [] := ⟨none, 0, rfl, fun h => absurd rfl h⟩
    exact ⟨none, [], 0, rfl, h0, (fun e he => by cases he), by simp⟩
  · have hlm : len ≤ m := by rw [hmm]; split <;> omega
    have hu : Try.prog.underlying 27 = some (.slice 3) := Try.underlying27
    have hwl : len * 8 ≤ reachBytes := by
      have := hw ((((List.range len).map D).length + ((List.range (m - len)).map fun j => D (len + j)).length) * Try.prog.bytesOf 3) (by simp [DataW.weights, hu])
      rw [bytesInt] at this
      simp at this
      omega
    have each : ∀ i, i < len → ∃ q : Int, W.cells? 0 (ad.add (i * 1)) 1 = some [.int .i64 q] ∧ (Lit.int .i64 q).wf = true := by
      intro i hi
      obtain ⟨cs', h1, h2⟩ := hx i (by omega)
      rw [cellsInt] at h1
      obtain ⟨a, e0, r0, w0⟩ := DataW.trod_int Try.underlying3 h2
      exact ⟨a, by rw [h1, e0], w0⟩
    obtain ⟨q, hq⟩ := Deep.choose_lt each
    refine ⟨some ad, (List.range len).map q, cap, by simp, ?_, fun e he => ?_, by simpa using hwl⟩
    · refine ⟨some ad, cap, by simp, fun hne => ?_⟩
      have h0 : 0 < len := by
        rcases Nat.eq_zero_or_pos len with rfl | h
        · exact absurd rfl hne
        · exact h
      have cellsOf : ∀ i, i < len → W.cell? (ad.add i) = some (.int .i64 (q i)) := fun i hi => by
        obtain ⟨h1, _⟩ := hq i hi
        obtain ⟨_, _, hcell⟩ := World.cells?_some h1
        have := hcell 0 (by omega)
        rw [Deep.add_add] at this
        simpa using this
      have hc0 := cellsOf 0 h0
      rw [show ad.add 0 = ad from rfl] at hc0
      have hsp : ad.spot = none ∧ ad.block < W.heap.size := by
        unfold World.cell? at hc0
        split at hc0
        · rename_i c T F hb
          refine ⟨?_, (Array.getElem?_eq_some_iff.1 hb).1⟩
          cases hs : ad.spot with
          | none => rfl
          | some _ => simp [hs] at hc0
        · cases hc0
      obtain ⟨g, off, sp⟩ := ad
      obtain ⟨rfl, hg⟩ := hsp
      refine ⟨g, off, rfl, hg, fun j hj => ?_⟩
      have hj' : j < len := by simpa using hj
      have c0 := cellsOf j hj'
      rw [add_plain] at c0
      simpa using c0
    · obtain ⟨i, hi, rfl⟩ := List.mem_map.1 he
      exact (hq i (List.mem_range.1 hi)).2
end Go.Proofs.Ytkhpoeolnhfflaa
