/-
  What a read argument of edits holds: an opened slice. Conditions: none beyond the form's own.
-/
import Derived.Test.YtkhpoeolnhfflaaEditSeq
import Derived.Deep.SlicePairs
import Derived.Deep.Strs
import Derived.SizedLaws
import Derived.Carry
set_option linter.unusedSimpArgs false
set_option linter.unusedVariables false
namespace Go.Proofs.Ytkhpoeolnhfflaa
open Go.Shelf Go.RowKit Go.Lib Go.ChangeShapes Go.WideShapes

theorem cellsEdit : Try.prog.cellsOf 50 = 3 := by kernel_rfl
theorem bytesEdit : Try.prog.bytesOf 50 = 32 := by kernel_rfl
theorem editFields : ∃ f0 f1 f2 : Field, Try.prog.underlying 50 = some (.struct #[f0, f1, f2]) ∧ f0.type = 3 ∧ f1.type = 3 ∧ f2.type = 9 ∧ f0.offset = 0 ∧ f1.offset = 1 ∧ f2.offset = 2 :=
  ⟨_, _, _, Try.underlying50, rfl, rfl, rfl, rfl, rfl, rfl⟩
theorem cellsInt : Try.prog.cellsOf 3 = 1 := by kernel_rfl
theorem cellsStr : Try.prog.cellsOf 9 = 1 := by kernel_rfl

/-- An edit within the form's bounds. -/
structure EditOk (e : EditP) : Prop where
  fr : (Lit.int .i64 e.fr).wf = true
  to : (Lit.int .i64 e.to).wf = true
  text : e.text.size ≤ reachBytes

theorem edit_open {H : Type} {enc : TypeId × Value → H} {W : World} {spare : Nat → Bool} {held : Bool} {n : Nat} {cs : List Value} {x : DataW H × List MemPlace} (h : DataW.trod enc Try.prog W 0 spare held n 50 cs = some x) (hw : ∀ m ∈ x.1.weights Try.prog 50, m ≤ reachBytes) :
    ∃ e : EditP, cs = encE e ∧ EditOk e := by
  obtain ⟨f0, f1, f2, hu, t0, t1, t2, o0, o1, o2⟩ := editFields
  obtain ⟨y0, y1, y2, k, rfl, hl, h0, h1, h2⟩ := Deep.trod_struct3 hu h
  rw [cellsEdit] at hl
  match cs, hl with
  | [v0, v1, v2], _ =>
    rw [t0, o0, cellsInt] at h0
    rw [t1, o1, cellsInt] at h1
    rw [t2, o2, cellsStr] at h2
    simp at h0 h1 h2
    obtain ⟨a, e0, r0, w0⟩ := DataW.trod_int Try.underlying3 h0
    obtain ⟨b, e1, r1, w1⟩ := DataW.trod_int Try.underlying3 h1
    obtain ⟨s, e2, r2, w2⟩ := DataW.trod_string Try.underlying9 h2
    simp at e0 e1 e2
    subst e0 e1 e2 r0 r1 r2
    refine ⟨⟨a, b, s⟩, rfl, w0, w1, ?_⟩
    have := hw s.data.toList.length (by simp [DataW.weights, hu, DataW.weightsEach])
    simpa using this

theorem weightsAll_mem {H : Type} {P : Program} {e : TypeId} : ∀ {l : List (DataW H)} {d : DataW H}, d ∈ l → ∀ n ∈ d.weights P e, n ∈ DataW.weightsAll P e l
  | d0 :: l, d, hd, n, hn => by
    rw [DataW.weightsAll]
    rcases List.mem_cons.1 hd with rfl | hd
    · exact List.mem_append_left _ hn
    · exact List.mem_append_right _ (weightsAll_mem hd n hn)

theorem edits_open {H : Type} {enc : TypeId × Value → H} {W : World} {spare : Nat → Bool} {held : Bool} {n : Nat} {cs : List Value} {x : DataW H × List MemPlace} (h : DataW.trod enc Try.prog W 0 spare held n 30 cs = some x) (hw : ∀ m ∈ x.1.weights Try.prog 30, m ≤ reachBytes) :
    ∃ (a : Option Addr) (l : List EditP) (cap : Nat), cs = [.slice a l.length cap] ∧ EditsIn W.heap.size W (.slice a l.length cap) l ∧ (∀ e ∈ l, EditOk e) ∧ l.length * 32 ≤ reachBytes := by
  rcases Deep.open_slice Try.underlying30 h with ⟨rfl, rfl⟩ | ⟨ad, len, cap, m, k, D, Pl, rfl, hb, hl, hm, hmm, rfl, hx⟩
  · have h0 : EditsIn W.heap.size W (.slice none 0 0) [] := ⟨none, 0, rfl, fun h => absurd rfl h⟩
    exact ⟨none, [], 0, rfl, h0, (fun e he => by cases he), by simp⟩
  · have hlm : len ≤ m := by rw [hmm]; split <;> omega
    have hwl : len * 32 ≤ reachBytes := by
      have := hw ((((List.range len).map D).length + ((List.range (m - len)).map fun j => D (len + j)).length) * Try.prog.bytesOf 50) (by simp [DataW.weights, (show Try.prog.underlying 30 = some (.slice 50) from Try.underlying30)])
      rw [bytesEdit] at this
      simp at this
      omega
    have each : ∀ i, i < len → ∃ e : EditP, (∃ cs', W.cells? 0 (ad.add (i * 3)) 3 = some cs' ∧ cs' = encE e) ∧ EditOk e := by
      intro i hi
      obtain ⟨cs', h1, h2⟩ := hx i (by omega)
      rw [cellsEdit] at h1
      obtain ⟨e, he, hok⟩ := edit_open h2 (fun n hn => hw n (by
        simp only [DataW.weights, (show Try.prog.underlying 30 = some (.slice 50) from Try.underlying30)]
        exact List.mem_cons_of_mem _ (List.mem_append_left _ (weightsAll_mem (List.mem_map.2 ⟨i, List.mem_range.2 hi, rfl⟩) n hn))))
      exact ⟨e, ⟨cs', h1, he⟩, hok⟩
    obtain ⟨q, hq⟩ := Deep.choose_lt each
    refine ⟨some ad, (List.range len).map q, cap, by simp, ?_, fun e he => ?_, by simpa using hwl⟩
    · refine ⟨some ad, cap, by simp, fun hne => ?_⟩
      have h0 : 0 < len := by
        rcases Nat.eq_zero_or_pos len with rfl | h
        · exact absurd rfl hne
        · exact h
      have cellsOf : ∀ i, i < len → ∀ c, c < 3 → W.cell? (ad.add (i * 3 + c)) = (encE (q i))[c]? := fun i hi c hc => by
        obtain ⟨⟨cs', h1, he⟩, _⟩ := hq i hi
        obtain ⟨_, _, hcell⟩ := World.cells?_some h1
        have := hcell c hc
        rw [Deep.add_add, he] at this
        exact this
      have hc0 := cellsOf 0 h0 0 (by omega)
      rw [show 0 * 3 + 0 = 0 by omega, show ad.add 0 = ad from rfl] at hc0
      have hc0' : W.cell? ad = some (.int .i64 (q 0).fr) := hc0
      have hsp : ad.spot = none ∧ ad.block < W.heap.size := by
        unfold World.cell? at hc0'
        split at hc0'
        · rename_i c T F hb
          refine ⟨?_, (Array.getElem?_eq_some_iff.1 hb).1⟩
          cases hs : ad.spot with
          | none => rfl
          | some _ => simp [hs] at hc0'
        · cases hc0'
      obtain ⟨g, off, sp⟩ := ad
      obtain ⟨rfl, hg⟩ := hsp
      refine ⟨g, off, rfl, hg, fun j hj => ?_⟩
      have hj' : j < len := by simpa using hj
      have hel : ((List.range len).map q)[j] = q j := by simp
      have c0 := cellsOf j hj' 0 (by omega)
      have c1 := cellsOf j hj' 1 (by omega)
      have c2 := cellsOf j hj' 2 (by omega)
      rw [add_plain] at c0 c1 c2
      rw [hel]
      exact ⟨c0, c1, c2⟩
    · obtain ⟨i, hi, rfl⟩ := List.mem_map.1 he
      exact (hq i (List.mem_range.1 hi)).2
end Go.Proofs.Ytkhpoeolnhfflaa
