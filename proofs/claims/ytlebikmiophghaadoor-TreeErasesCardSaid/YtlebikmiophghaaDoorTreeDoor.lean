/-
  What a read tree holds: an opened struct of a slice of nodes; the row's list gives the table of powers of ten. Conditions: none beyond the form's own.
-/
import Derived.Test.YtlebikmiophghaaDoorTreeParents
import Derived.Test.YtlebikmiophghaaDoorTreeLine
import Derived.Test.YtlebikmiophghaaDoorCards
import Derived.Test.YtlebikmiophghaaDoorTie
import Derived.Deep.SlicePairs
import Derived.Deep.Strs
import Derived.SizedLaws
import Derived.Carry
import Derived.LaidMore
import Derived.Lay
import Derived.Lib.LaidTab
import Derived.Lib.LaidU8
import Derived.ChangeSame
import Derived.OpenShut
import Derived.ChangeArms
set_option linter.unusedSimpArgs false
set_option linter.unusedVariables false
namespace Go.Proofs.YtlebikmiophghaaDoor
open Go.Shelf Go.RowKit Go.Lib Go.ChangeShapes Go.WideShapes

def laidTree : List (String × DataW Unit) := [("math/bits.deBruijn32tab", Rows.laid_math_bits_deBruijn32tab), ("math/bits.deBruijn64tab", Rows.laid_math_bits_deBruijn64tab), ("internal/strconv.uint64pow10", Rows.laid_internal_strconv_uint64pow10)]
theorem laidTree_plain (W : World) : laidMetH Tryd.prog laidTree W = laidMet Tryd.prog laidTree W := MakeChecks.laidMetH_plain _ _ _ (by kernel_rfl)

theorem cellsNode : Tryd.prog.cellsOf 33 = 10 := by kernel_rfl
theorem bytesNode : Tryd.prog.bytesOf 33 = 136 := by kernel_rfl
theorem cellsPiece : Tryd.prog.cellsOf 36 = 2 := by kernel_rfl
theorem bytesPiece : Tryd.prog.bytesOf 36 = 16 := by kernel_rfl
theorem cellsTree : Tryd.prog.cellsOf 24 = 1 := by kernel_rfl
theorem cellsInt : Tryd.prog.cellsOf 3 = 1 := by kernel_rfl
theorem bytesInt : Tryd.prog.bytesOf 3 = 8 := by kernel_rfl
theorem bytesByte : Tryd.prog.bytesOf 5 = 1 := by kernel_rfl
theorem cellsStr : Tryd.prog.cellsOf 9 = 1 := by kernel_rfl
theorem cellsBool : Tryd.prog.cellsOf 4 = 1 := by kernel_rfl
theorem cellsInts : Tryd.prog.cellsOf 29 = 1 := by kernel_rfl
theorem cellsPieces : Tryd.prog.cellsOf 31 = 1 := by kernel_rfl
theorem cellsNodes : Tryd.prog.cellsOf 22 = 1 := by kernel_rfl

theorem weightsAll_mem {H : Type} {P : Program} {e : TypeId} : ∀ {l : List (DataW H)} {d : DataW H}, d ∈ l → ∀ n ∈ d.weights P e, n ∈ DataW.weightsAll P e l
  | d0 :: l, d, hd, n, hn => by
    rw [DataW.weightsAll]
    rcases List.mem_cons.1 hd with rfl | hd
    · exact List.mem_append_left _ hn
    · exact List.mem_append_right _ (weightsAll_mem hd n hn)

theorem ints_open {H : Type} {enc : TypeId × Value → H} {W : World} {spare : Nat → Bool} {held : Bool} {n : Nat} {cs : List Value} {x : DataW H × List MemPlace} (h : DataW.trod enc Tryd.prog W 0 spare held n 29 cs = some x) (hw : ∀ m ∈ x.1.weights Tryd.prog 29, m ≤ reachBytes) :
    ∃ (a : Option Addr) (l : List Int) (cap : Nat), cs = [.slice a l.length cap] ∧ IntsIn W.heap.size W (.slice a l.length cap) l ∧ (∀ e ∈ l, (Lit.int .i64 e).wf = true) ∧ l.length * 8 ≤ reachBytes := by
  rcases Deep.open_slice Tryd.underlying29 h with ⟨rfl, rfl⟩ | ⟨ad, len, cap, m, k, D, Pl, rfl, hb, hl, hm, hmm, rfl, hx⟩
  · have h0 : IntsIn W.heap.size W (.slice none 0 0) [] := ⟨none, 0, rfl, fun h => absurd rfl h⟩
    exact ⟨none, [], 0, rfl, h0, (fun e he => by cases he), by simp⟩
  · have hlm : len ≤ m := by rw [hmm]; split <;> omega
    have hu : Tryd.prog.underlying 29 = some (.slice 3) := Tryd.underlying29
    have hwl : len * 8 ≤ reachBytes := by
      have := hw ((((List.range len).map D).length + ((List.range (m - len)).map fun j => D (len + j)).length) * Tryd.prog.bytesOf 3) (by simp [DataW.weights, hu])
      rw [bytesInt] at this
      simp at this
      omega
    have each : ∀ i, i < len → ∃ q : Int, W.cells? 0 (ad.add (i * 1)) 1 = some [.int .i64 q] ∧ (Lit.int .i64 q).wf = true := by
      intro i hi
      obtain ⟨cs', h1, h2⟩ := hx i (by omega)
      rw [cellsInt] at h1
      obtain ⟨a, e0, r0, w0⟩ := DataW.trod_int Tryd.underlying3 h2
      exact ⟨a, by rw [h1, e0], w0⟩
    obtain ⟨q, hq⟩ := Deep.choose_lt each
    refine ⟨some ad, (List.range len).map q, cap, by simp, ?_, fun e he => ?_, by simpa using hwl⟩
    · refine ⟨some ad, cap, by simp, fun hne => ?_⟩
      have h0 : 0 < len := by
        rcases Nat.eq_zero_or_pos len with rfl | h
        · exact absurd rfl hne
        · exact h
      have cellsOf : ∀ i, i < len → W.cell? (ad.add i) = some (.int .i64 (q i)) := fun i hi => by
        obtain ⟨h1, _⟩ := hq i hi
        obtain ⟨_, _, hcell⟩ := World.cells?_some h1
        have := hcell 0 (by omega)
        rw [Deep.add_add] at this
        simpa using this
      have hc0 := cellsOf 0 h0
      rw [show ad.add 0 = ad from rfl] at hc0
      have hsp : ad.spot = none ∧ ad.block < W.heap.size := by
        unfold World.cell? at hc0
        split at hc0
        · rename_i c T F hb
          refine ⟨?_, (Array.getElem?_eq_some_iff.1 hb).1⟩
          cases hs : ad.spot with
          | none => rfl
          | some _ => simp [hs] at hc0
        · cases hc0
      obtain ⟨g, off, sp⟩ := ad
      obtain ⟨rfl, hg⟩ := hsp
      refine ⟨g, off, rfl, hg, fun j hj => ?_⟩
      have hj' : j < len := by simpa using hj
      have c0 := cellsOf j hj'
      rw [Addr.add_lit] at c0
      simpa using c0
    · obtain ⟨i, hi, rfl⟩ := List.mem_map.1 he
      exact (hq i (List.mem_range.1 hi)).2

theorem pieceFields : ∃ f0 f1 : Field, Tryd.prog.underlying 36 = some (.struct #[f0, f1]) ∧ f0.type = 3 ∧ f1.type = 3 ∧ f0.offset = 0 ∧ f1.offset = 1 :=
  ⟨_, _, Tryd.underlying36, rfl, rfl, rfl, rfl⟩
set_option maxRecDepth 100000 in
theorem piece_open {H : Type} {enc : TypeId × Value → H} {W : World} {spare : Nat → Bool} {held : Bool} {n : Nat} {cs : List Value} {x : DataW H × List MemPlace} (h : DataW.trod enc Tryd.prog W 0 spare held n 36 cs = some x) (hw : ∀ m ∈ x.1.weights Tryd.prog 36, m ≤ reachBytes) :
    ∃ e : PieceP, cs = pieceC e ∧ True := by
  obtain ⟨f0, f1, hu, t0, t1, o0, o1⟩ := pieceFields
  obtain ⟨y0, y1, k, rfl, hl, h0, h1⟩ := trod_struct2 hu h
  rw [cellsPiece] at hl
  match cs, hl with
  | [v0, v1], _ =>
    rw [t0, o0, cellsInt] at h0
    rw [t1, o1, cellsInt] at h1
    simp at h0 h1
    obtain ⟨a, e0, r0, w0⟩ := DataW.trod_int Tryd.underlying3 h0
    obtain ⟨b, e1, r1, w1⟩ := DataW.trod_int Tryd.underlying3 h1
    simp at e0 e1
    subst e0 e1
    exact ⟨⟨a, b⟩, rfl, trivial⟩

theorem pieces_open {H : Type} {enc : TypeId × Value → H} {W : World} {spare : Nat → Bool} {held : Bool} {n : Nat} {cs : List Value} {x : DataW H × List MemPlace} (h : DataW.trod enc Tryd.prog W 0 spare held n 31 cs = some x) (hw : ∀ m ∈ x.1.weights Tryd.prog 31, m ≤ reachBytes) :
    ∃ (a : Option Addr) (l : List PieceP) (cap : Nat), cs = [.slice a l.length cap] ∧ PiecesIn W.heap.size W (.slice a l.length cap) l ∧ (∀ e ∈ l, True) ∧ l.length * 16 ≤ reachBytes := by
  rcases Deep.open_slice Tryd.underlying31 h with ⟨rfl, rfl⟩ | ⟨ad, len, cap, m, k, D, Pl, rfl, hb, hl, hm, hmm, rfl, hx⟩
  · have h0 : PiecesIn W.heap.size W (.slice none 0 0) [] := ⟨none, 0, rfl, fun h => absurd rfl h⟩
    exact ⟨none, [], 0, rfl, h0, (fun e he => by cases he), by simp⟩
  · have hlm : len ≤ m := by rw [hmm]; split <;> omega
    have hwl : len * 16 ≤ reachBytes := by
      have := hw ((((List.range len).map D).length + ((List.range (m - len)).map fun j => D (len + j)).length) * Tryd.prog.bytesOf 36) (by simp [DataW.weights, (show Tryd.prog.underlying 31 = some (.slice 36) from Tryd.underlying31)])
      rw [bytesPiece] at this
      simp at this
      omega
    have each : ∀ i, i < len → ∃ e : PieceP, (∃ cs', W.cells? 0 (ad.add (i * 2)) 2 = some cs' ∧ cs' = pieceC e) ∧ True := by
      intro i hi
      obtain ⟨cs', h1, h2⟩ := hx i (by omega)
      rw [cellsPiece] at h1
      obtain ⟨e, he, hok⟩ := piece_open h2 (fun n hn => hw n (by
        simp only [DataW.weights, (show Tryd.prog.underlying 31 = some (.slice 36) from Tryd.underlying31)]
        exact List.mem_cons_of_mem _ (List.mem_append_left _ (weightsAll_mem (List.mem_map.2 ⟨i, List.mem_range.2 hi, rfl⟩) n hn))))
      exact ⟨e, ⟨cs', h1, he⟩, hok⟩
    obtain ⟨q, hq⟩ := Deep.choose_lt each
    refine ⟨some ad, (List.range len).map q, cap, by simp, ?_, fun e he => ?_, by simpa using hwl⟩
    · refine ⟨some ad, cap, by simp, fun hne => ?_⟩
      have h0 : 0 < len := by
        rcases Nat.eq_zero_or_pos len with rfl | h
        · exact absurd rfl hne
        · exact h
      have cellsOf : ∀ i, i < len → ∀ c, c < 2 → W.cell? (ad.add (i * 2 + c)) = (pieceC (q i))[c]? := fun i hi c hc => by
        obtain ⟨⟨cs', h1, he⟩, _⟩ := hq i hi
        obtain ⟨_, _, hcell⟩ := World.cells?_some h1
        have := hcell c hc
        rw [Deep.add_add, he] at this
        exact this
      have hc0 := cellsOf 0 h0 0 (by omega)
      rw [show 0 * 4 + 0 = 0 by omega, show ad.add 0 = ad from rfl] at hc0
      have hc0' : W.cell? ad = some (.int .i64 (q 0).fr) := hc0
      have hsp : ad.spot = none ∧ ad.block < W.heap.size := by
        unfold World.cell? at hc0'
        split at hc0'
        · rename_i c T F hb
          refine ⟨?_, (Array.getElem?_eq_some_iff.1 hb).1⟩
          cases hs : ad.spot with
          | none => rfl
          | some _ => simp [hs] at hc0'
        · cases hc0'
      obtain ⟨g, off, sp⟩ := ad
      obtain ⟨rfl, hg⟩ := hsp
      refine ⟨g, off, rfl, hg, fun j hj => ?_⟩
      have hj' : j < len := by simpa using hj
      have hel : ((List.range len).map q)[j] = q j := by simp
      have c0 := cellsOf j hj' 0 (by omega)
      have c1 := cellsOf j hj' 1 (by omega)
      rw [Addr.add_lit] at c0 c1
      rw [hel]
      exact ⟨c0, c1⟩
    · obtain ⟨i, hi, rfl⟩ := List.mem_map.1 he
      exact (hq i (List.mem_range.1 hi)).2
theorem nodeFields : ∃ f0 f1 f2 f3 f4 f5 f6 f7 f8 f9 : Field, Tryd.prog.underlying 33 = some (.struct #[f0, f1, f2, f3, f4, f5, f6, f7, f8, f9]) ∧ f0.type = 3 ∧ f1.type = 3 ∧ f2.type = 3 ∧ f3.type = 3 ∧ f4.type = 9 ∧ f5.type = 9 ∧ f6.type = 9 ∧ f7.type = 4 ∧ f8.type = 29 ∧ f9.type = 31 ∧ f0.offset = 0 ∧ f1.offset = 1 ∧ f2.offset = 2 ∧ f3.offset = 3 ∧ f4.offset = 4 ∧ f5.offset = 5 ∧ f6.offset = 6 ∧ f7.offset = 7 ∧ f8.offset = 8 ∧ f9.offset = 9 :=
  ⟨_, _, _, _, _, _, _, _, _, _, Tryd.underlying33, rfl, rfl, rfl, rfl, rfl, rfl, rfl, rfl, rfl, rfl, rfl, rfl, rfl, rfl, rfl, rfl, rfl, rfl, rfl, rfl⟩
theorem trod_struct10 {H : Type} {enc : TypeId × Value → H} {P : Program} {w : World} {base : Nat} {spare : Nat → Bool} {held : Bool} {t : TypeId} {f0 f1 f2 f3 f4 f5 f6 f7 f8 f9 : Field} {fuel : Nat} {cs : List Value} {x : DataW H × List MemPlace} (ht : P.underlying t = some (.struct #[f0, f1, f2, f3, f4, f5, f6, f7, f8, f9])) (h : DataW.trod enc P w base spare held fuel t cs = some x) :
    ∃ y0 y1 y2 y3 y4 y5 y6 y7 y8 y9 n, x.1 = .agg [y0.1, y1.1, y2.1, y3.1, y4.1, y5.1, y6.1, y7.1, y8.1, y9.1] ∧ cs.length = P.cellsOf t ∧ DataW.trod enc P w base spare held n f0.type ((cs.drop f0.offset).take (P.cellsOf f0.type)) = some y0 ∧
      DataW.trod enc P w base spare held n f1.type ((cs.drop f1.offset).take (P.cellsOf f1.type)) = some y1 ∧
      DataW.trod enc P w base spare held n f2.type ((cs.drop f2.offset).take (P.cellsOf f2.type)) = some y2 ∧
      DataW.trod enc P w base spare held n f3.type ((cs.drop f3.offset).take (P.cellsOf f3.type)) = some y3 ∧
      DataW.trod enc P w base spare held n f4.type ((cs.drop f4.offset).take (P.cellsOf f4.type)) = some y4 ∧
      DataW.trod enc P w base spare held n f5.type ((cs.drop f5.offset).take (P.cellsOf f5.type)) = some y5 ∧
      DataW.trod enc P w base spare held n f6.type ((cs.drop f6.offset).take (P.cellsOf f6.type)) = some y6 ∧
      DataW.trod enc P w base spare held n f7.type ((cs.drop f7.offset).take (P.cellsOf f7.type)) = some y7 ∧
      DataW.trod enc P w base spare held n f8.type ((cs.drop f8.offset).take (P.cellsOf f8.type)) = some y8 ∧
      DataW.trod enc P w base spare held n f9.type ((cs.drop f9.offset).take (P.cellsOf f9.type)) = some y9 := by
  obtain ⟨xs, n, _, rfl, hl, hlen, hf⟩ := DataW.trod_struct ht h
  match xs, hlen with
  | [y0, y1, y2, y3, y4, y5, y6, y7, y8, y9], _ => exact ⟨y0, y1, y2, y3, y4, y5, y6, y7, y8, y9, n, by simp, hl, by simpa using hf 0 f0 rfl, by simpa using hf 1 f1 rfl, by simpa using hf 2 f2 rfl, by simpa using hf 3 f3 rfl, by simpa using hf 4 f4 rfl, by simpa using hf 5 f5 rfl, by simpa using hf 6 f6 rfl, by simpa using hf 7 f7 rfl, by simpa using hf 8 f8 rfl, by simpa using hf 9 f9 rfl⟩
theorem i64_wf {n : Int} (h : (Lit.int .i64 n).wf = true) : -9223372036854775808 ≤ n ∧ n ≤ 9223372036854775807 := by
  have h' : IntKind.i64.min ≤ n ∧ n ≤ IntKind.i64.max := by simpa [Lit.wf] using h
  exact h'
set_option maxRecDepth 100000 in
theorem node_open {H : Type} {enc : TypeId × Value → H} {W : World} {spare : Nat → Bool} {held : Bool} {n : Nat} {cs : List Value} {x : DataW H × List MemPlace} (h : DataW.trod enc Tryd.prog W 0 spare held n 33 cs = some x) (hw : ∀ m ∈ x.1.weights Tryd.prog 33, m ≤ reachBytes) :
    ∃ (e : NodeP) (ka : Option Addr) (kc : Nat) (pa : Option Addr) (pc : Nat), cs = nodeC ⟨e, .slice ka e.kids.length kc, .slice pa e.pieces.length pc⟩ ∧ IntsIn W.heap.size W (.slice ka e.kids.length kc) e.kids ∧ PiecesIn W.heap.size W (.slice pa e.pieces.length pc) e.pieces ∧ NodeOk e := by
  obtain ⟨f0, f1, f2, f3, f4, f5, f6, f7, f8, f9, hu, t0, t1, t2, t3, t4, t5, t6, t7, t8, t9, o0, o1, o2, o3, o4, o5, o6, o7, o8, o9⟩ := nodeFields
  obtain ⟨y0, y1, y2, y3, y4, y5, y6, y7, y8, y9, k, hx, hl, h0, h1, h2, h3, h4, h5, h6, h7, h8, h9⟩ := trod_struct10 hu h
  rw [hx] at hw
  rw [cellsNode] at hl
  match cs, hl with
  | [v0, v1, v2, v3, v4, v5, v6, v7, v8, v9], _ =>
    rw [t0, o0, cellsInt] at h0
    rw [t1, o1, cellsInt] at h1
    rw [t2, o2, cellsInt] at h2
    rw [t3, o3, cellsInt] at h3
    rw [t4, o4, cellsStr] at h4
    rw [t5, o5, cellsStr] at h5
    rw [t6, o6, cellsStr] at h6
    rw [t7, o7, cellsBool] at h7
    rw [t8, o8, cellsInts] at h8
    rw [t9, o9, cellsPieces] at h9
    simp at h0 h1 h2 h3 h4 h5 h6 h7 h8 h9
    obtain ⟨z0, e0, r0, w0⟩ := DataW.trod_int Tryd.underlying3 h0
    obtain ⟨z1, e1, r1, w1⟩ := DataW.trod_int Tryd.underlying3 h1
    obtain ⟨z2, e2, r2, w2⟩ := DataW.trod_int Tryd.underlying3 h2
    obtain ⟨z3, e3, r3, w3⟩ := DataW.trod_int Tryd.underlying3 h3
    obtain ⟨z4, e4, r4, w4⟩ := DataW.trod_string Tryd.underlying9 h4
    obtain ⟨z5, e5, r5, w5⟩ := DataW.trod_string Tryd.underlying9 h5
    obtain ⟨z6, e6, r6, w6⟩ := DataW.trod_string Tryd.underlying9 h6
    obtain ⟨z7, e7, r7⟩ := DataW.trod_bool Tryd.underlying4 h7
    obtain ⟨a8, l8, c8, e8, I8, ok8, len8⟩ := ints_open h8 (fun m hm => hw m (by
      simp only [DataW.weights, hu, DataW.weightsEach]
      simp [t8, hm, DataW.weightsEach]))
    obtain ⟨a9, l9, c9, e9, I9, ok9, len9⟩ := pieces_open h9 (fun m hm => hw m (by
      simp only [DataW.weights, hu, DataW.weightsEach]
      simp [t9, hm, DataW.weightsEach]))
    have s4 : z4.size ≤ reachBytes := by
      have := hw z4.data.toList.length (by
        simp only [DataW.weights, hu, DataW.weightsEach]
        rw [r4]
        simp [t4, DataW.weightsEach, DataW.weights])
      simpa using this
    have s5 : z5.size ≤ reachBytes := by
      have := hw z5.data.toList.length (by
        simp only [DataW.weights, hu, DataW.weightsEach]
        rw [r5]
        simp [t5, DataW.weightsEach, DataW.weights])
      simpa using this
    have s6 : z6.size ≤ reachBytes := by
      have := hw z6.data.toList.length (by
        simp only [DataW.weights, hu, DataW.weightsEach]
        rw [r6]
        simp [t6, DataW.weightsEach, DataW.weights])
      simpa using this
    simp at e0 e1 e2 e3 e4 e5 e6 e7 e8 e9
    subst e0 e1 e2 e3 e4 e5 e6 e7 e8 e9
    exact ⟨⟨z0, z1, z2, z3, z4, z5, z6, z7, l8, l9⟩, a8, c8, a9, c9, rfl, I8, I9, ⟨Nat.le_trans s4 (by decide), Nat.le_trans s5 (by decide), Nat.le_trans s6 (by decide), Nat.le_trans len8 (by decide), Nat.le_trans len9 (by decide), i64_wf w3, i64_wf w2⟩⟩

theorem nodes_open {H : Type} {enc : TypeId × Value → H} {W : World} {spare : Nat → Bool} {held : Bool} {n : Nat} {cs : List Value} {x : DataW H × List MemPlace} (h : DataW.trod enc Tryd.prog W 0 spare held n 22 cs = some x) (hw : ∀ m ∈ x.1.weights Tryd.prog 22, m ≤ reachBytes) :
    ∃ (a : Option Addr) (l : List NodeP) (cap : Nat), cs = [.slice a l.length cap] ∧ NodesIn W.heap.size W (.slice a l.length cap) l ∧ (∀ f ∈ l, NodeOk f) ∧ l.length * 136 ≤ reachBytes := by
  rcases Deep.open_slice Tryd.underlying22 h with ⟨rfl, rfl⟩ | ⟨ad, len, cap, m, k, D, Pl, rfl, hb, hl, hm, hmm, rfl, hx⟩
  · have h0 : NodesIn W.heap.size W (.slice none 0 0) [] := ⟨none, 0, rfl, fun h => absurd rfl h⟩
    exact ⟨none, [], 0, rfl, h0, (fun e he => by cases he), by simp⟩
  · have hlm : len ≤ m := by rw [hmm]; split <;> omega
    have hu : Tryd.prog.underlying 22 = some (.slice 33) := Tryd.underlying22
    have hwl : len * 136 ≤ reachBytes := by
      have := hw ((((List.range len).map D).length + ((List.range (m - len)).map fun j => D (len + j)).length) * Tryd.prog.bytesOf 33) (by simp [DataW.weights, hu])
      rw [bytesNode] at this
      simp at this
      omega
    have each : ∀ i, i < len → ∃ q : NodeP × Option Addr × Nat × Option Addr × Nat, W.cells? 0 (ad.add (i * 10)) 10 = some (nodeC ⟨q.1, .slice q.2.1 q.1.kids.length q.2.2.1, .slice q.2.2.2.1 q.1.pieces.length q.2.2.2.2⟩) ∧ (IntsIn W.heap.size W (.slice q.2.1 q.1.kids.length q.2.2.1) q.1.kids ∧ PiecesIn W.heap.size W (.slice q.2.2.2.1 q.1.pieces.length q.2.2.2.2) q.1.pieces) ∧ NodeOk q.1 := by
      intro i hi
      obtain ⟨cs', h1, h2⟩ := hx i (by omega)
      rw [cellsNode] at h1
      obtain ⟨f, ka, kc, pa, pc, he, hI, hJ, hok⟩ := node_open h2 (fun n hn => hw n (by
        simp only [DataW.weights, hu]
        exact List.mem_cons_of_mem _ (List.mem_append_left _ (weightsAll_mem (List.mem_map.2 ⟨i, List.mem_range.2 hi, rfl⟩) n hn))))
      exact ⟨⟨f, ka, kc, pa, pc⟩, by rw [h1, he], ⟨hI, hJ⟩, hok⟩
    obtain ⟨q, hq⟩ := Deep.choose_lt each
    refine ⟨some ad, (List.range len).map fun i => (q i).1, cap, by simp, ?_, fun e he => ?_, by simpa using hwl⟩
    · refine ⟨some ad, cap, by simp, fun hne => ?_⟩
      have h0 : 0 < len := by
        rcases Nat.eq_zero_or_pos len with rfl | h
        · exact absurd rfl hne
        · exact h
      have cellsOf : ∀ i, i < len → ∀ c, c < 10 → W.cell? (ad.add (i * 10 + c)) = (nodeC ⟨(q i).1, .slice (q i).2.1 (q i).1.kids.length (q i).2.2.1, .slice (q i).2.2.2.1 (q i).1.pieces.length (q i).2.2.2.2⟩)[c]? := fun i hi c hc => by
        obtain ⟨h1, _⟩ := hq i hi
        obtain ⟨_, _, hcell⟩ := World.cells?_some h1
        have := hcell c hc
        rw [Deep.add_add] at this
        exact this
      have hc0 := cellsOf 0 h0 0 (by omega)
      rw [show 0 * 10 + 0 = 0 by omega, show ad.add 0 = ad from rfl] at hc0
      have hc0' : W.cell? ad = some (.int .i64 (q 0).1.kind) := hc0
      have hsp : ad.spot = none ∧ ad.block < W.heap.size := by
        unfold World.cell? at hc0'
        split at hc0'
        · rename_i c T F hb
          refine ⟨?_, (Array.getElem?_eq_some_iff.1 hb).1⟩
          cases hs : ad.spot with
          | none => rfl
          | some _ => simp [hs] at hc0'
        · cases hc0'
      obtain ⟨g, off, sp⟩ := ad
      obtain ⟨rfl, hg⟩ := hsp
      refine ⟨g, off, rfl, hg, fun j hj => ?_⟩
      have hj' : j < len := by simpa using hj
      have hel : ((List.range len).map fun i => (q i).1)[j] = (q j).1 := by simp
      have c0 := cellsOf j hj' 0 (by omega)
      have c1 := cellsOf j hj' 1 (by omega)
      have c2 := cellsOf j hj' 2 (by omega)
      have c3 := cellsOf j hj' 3 (by omega)
      have c4 := cellsOf j hj' 4 (by omega)
      have c5 := cellsOf j hj' 5 (by omega)
      have c6 := cellsOf j hj' 6 (by omega)
      have c7 := cellsOf j hj' 7 (by omega)
      have c8 := cellsOf j hj' 8 (by omega)
      have c9 := cellsOf j hj' 9 (by omega)
      rw [Addr.add_lit] at c0 c1 c2 c3 c4 c5 c6 c7 c8 c9
      rw [hel]
      exact ⟨c0, c1, c2, c3, c4, c5, c6, c7, ⟨_, _, c8, (hq j hj').2.1.1⟩, ⟨_, _, c9, (hq j hj').2.1.2⟩⟩
    · obtain ⟨i, hi, rfl⟩ := List.mem_map.1 he
      exact (hq i (List.mem_range.1 hi)).2.2

set_option maxRecDepth 100000 in
theorem treeFields : ∃ f0 : Field, Tryd.prog.underlying 24 = some (.struct #[f0]) ∧ f0.type = 22 ∧ f0.offset = 0 :=
  ⟨_, Tryd.underlying24, rfl, rfl⟩
set_option maxRecDepth 100000 in
theorem tree_open {H : Type} {enc : TypeId × Value → H} {W : World} {spare : Nat → Bool} {held : Bool} {n : Nat} {cs : List Value} {x : DataW H × List MemPlace} (h : DataW.trod enc Tryd.prog W 0 spare held n 24 cs = some x) (hw : ∀ m ∈ x.1.weights Tryd.prog 24, m ≤ reachBytes) :
    ∃ (a : Option Addr) (l : List NodeP) (cap : Nat), cs = [.slice a l.length cap] ∧ NodesIn W.heap.size W (.slice a l.length cap) l ∧ (∀ f ∈ l, NodeOk f) ∧ l.length * 136 ≤ reachBytes := by
  obtain ⟨f0, hu, t0, o0⟩ := treeFields
  obtain ⟨y0, k, rfl, hl, h0⟩ := trod_struct1 hu h
  rw [cellsTree] at hl
  match cs, hl with
  | [v0], _ =>
    rw [t0, o0, cellsNodes] at h0
    simp at h0
    exact nodes_open h0 (fun m hm => hw m (by
      simp only [DataW.weights, hu, DataW.weightsEach]
      simp [t0, hm, DataW.weightsEach]))
set_option maxRecDepth 100000 in
theorem tree_value {W : World} {base : Nat} {v : Value} (h : Value.okWide Tryd.prog W .any base 24 v) : ∃ u, v = .agg #[u] := by
  obtain ⟨cs, rfl, hc⟩ := okWide_struct Tryd.underlying24 h
  rw [cellsTree] at hc
  match cs, hc with
  | ⟨[u]⟩, _ => exact ⟨u, rfl⟩

set_option maxRecDepth 100000 in
/-- The list gives the table of powers of ten. -/
theorem tree_tab {W : World} (h : laidMetH Tryd.prog laidTree W) : PowT W := by
  rw [laidTree_plain] at h
  obtain ⟨g, t, cs, fuel, p, hg, hty, hvar, hd⟩ := (Lib.laidMet.reads h (.tail _ (.tail _ (.head _))) : VarReads Tryd.prog W "internal/strconv.uint64pow10" (Rows.laid_internal_strconv_uint64pow10))
  rw [show (Rows.laid_internal_strconv_uint64pow10 : DataW Unit) = tabData .u64 pow10Tab by kernel_rfl] at hd
  have hgt : (Tryd.prog.globalNamed "internal/strconv.uint64pow10").bind (fun g => (Tryd.prog.globals[g]?).map (·.type)) = some 143 := by kernel_rfl
  rw [hg, Option.bind_some, hty] at hgt
  obtain rfl := Option.some.inj hgt
  have hcs := cells_of_tab Tryd.underlying143 Tryd.underlying114 (by kernel_rfl) (by kernel_rfl) hd
  unfold PowT TabIs
  rw [hvar, ← hcs]
end Go.Proofs.YtlebikmiophghaaDoor
