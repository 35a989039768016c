/-
  stetlaw24.func0, great, alive. Conditions: none | the form's own bounds.
-/
import Derived.Test.YtkhpoeolnhfflaaMergeCopy
import Derived.Test.YtkhpoeolnhfflaaMergeEdits
import Derived.Test.YtkhpoeolnhfflaaMergeDoor
set_option linter.unusedSimpArgs false
set_option linter.unusedVariables false
namespace Go.Proofs.Ytkhpoeolnhfflaa
open Go.Shelf Go.RowKit Go.Lib Go.Sort

theorem copyFindings_any (a : Option Addr) (cap : Nat) (l : List FindP) (hl : l.length ≤ 1000) (he : ∀ f ∈ l, f.edits.length ≤ 1000000) (w : World) (hI : FindsIn w.heap.size w (.slice a l.length cap) l) :
    Calls Try.prog 15 #[.slice a l.length cap] w fun e w' => (∃ a' cap', e = .returned (.slice a' l.length cap') ∧ FindsIn w'.heap.size w' (.slice a' l.length cap') l) ∧ Below w.heap.size w w' :=
  (copyFindings_own a cap l hl he w hI).mono fun e w' ⟨⟨v, rs, h1, h2, h3, h4⟩, h5⟩ => by
    obtain ⟨a', c', rfl, -⟩ := ownsRow_slice h2
    have h6 := findsIn_of_owns h2 h4
    have hz : rs.length = l.length := by rw [← h3, List.length_map]
    rw [h3, hz] at h6
    rw [hz] at h1
    exact ⟨⟨a', c', h1, h6⟩, h5⟩

/-- One edit in a new block. -/
theorem one_row {w : World} {L : Nat} {a : EditP} {F : Nat × Nat} (h : w.heap[L]? = some (.cells #[.int .i64 a.fr, .int .i64 a.to, .string a.text] 50 F)) (n : Nat) (hL : L < n) : EditsIn n w (.slice (some ⟨L, 0, none⟩) [a].length 1) [a] := by
  refine ⟨_, _, rfl, fun _ => ⟨L, 0, rfl, hL, fun j hj => ?_⟩⟩
  match j, hj with
  | 0, _ => exact ⟨by simp [World.cell?, h], by simp [World.cell?, h], by simp [World.cell?, h]⟩

/-- A finding of one edit. -/
def oneF (x y : Int) : FindP := ⟨0, 0, 0, [⟨x, y, ⟨#[]⟩⟩]⟩

set_option maxRecDepth 100000 in
set_option maxHeartbeats 2000000 in
theorem func0_any (x y : Int) (w : World) : Calls Try.prog 27 #[.int .i64 x, .int .i64 y] w fun e w' =>
    (∃ L, e = .returned (.agg #[.int .i64 0, .int .i64 0, .int .i64 0, .slice (some ⟨L, 0, none⟩) 1 1]) ∧ w.heap.size ≤ L ∧ EditsT w' (.slice (some ⟨L, 0, none⟩) 1 1) (oneF x y).edits) ∧ Below w.heap.size w w' := by
  go_enter Try.func27, Try.ntmps27
  go_wp2
  have hn := heap_alloc_new (w.alloc (.cells #[.int .i64 0, .int .i64 0, .int .i64 0, .slice (some ⟨w.heap.size + 1, 0, none⟩) 1 1] 37)) (.cells #[.int .i64 x, .int .i64 y, .string ⟨#[]⟩] 50)
  have hz : (w.alloc (.cells #[.int .i64 0, .int .i64 0, .int .i64 0, .slice (some ⟨w.heap.size + 1, 0, none⟩) 1 1] 37)).heap.size = w.heap.size + 1 := by simp
  rw [hz] at hn
  have hb : Below w.heap.size w ((w.alloc (.cells #[.int .i64 0, .int .i64 0, .int .i64 0, .slice (some ⟨w.heap.size + 1, 0, none⟩) 1 1] 37)).alloc (.cells #[.int .i64 x, .int .i64 y, .string ⟨#[]⟩] 50)) := ((Below.refl _ w).alloc (Nat.le_refl _) _).alloc (by omega) _
  have ho : ((w.alloc (.cells #[.int .i64 0, .int .i64 0, .int .i64 0, .slice (some ⟨w.heap.size + 1, 0, none⟩) 1 1] 37)).alloc (.cells #[.int .i64 x, .int .i64 y, .string ⟨#[]⟩] 50)).heap[w.heap.size]? = some (.cells #[.int .i64 0, .int .i64 0, .int .i64 0, .slice (some ⟨w.heap.size + 1, 0, none⟩) 1 1] 37) := (heap_alloc_old _ _ (show w.heap.size < _ by omega)).trans (heap_alloc_new w _)
  refine bodyPost_ret (v := .agg #[.int .i64 0, .int .i64 0, .int .i64 0, .slice (some ⟨w.heap.size + 1, 0, none⟩) 1 1]) (results_cell_row rfl _ _ w.heap.size 37 _ (0, 0) _ rfl ho Try.underlying37 rfl (by kernel_rfl)) rfl ?_
  refine ⟨⟨w.heap.size + 1, rfl, by omega, one_row (a := ⟨x, y, ⟨#[]⟩⟩) hn _ (by simp), _, _, rfl, fun _ ad he => ?_⟩, hb⟩
  injection he with he
  subst he
  exact ⟨_, _, hn⟩

def overF : Nat → List FindP → Bool
  | _, [] => false
  | n, f :: t => if 300 < n + f.edits.length then true else overF (n + f.edits.length) t
def greatF (l : List FindP) : Bool := decide (100 < l.length) || overF 0 l
theorem overF_false : ∀ (l : List FindP) (n : Nat), n ≤ 300 → overF n l = false → n + totE l ≤ 300
  | [], n, hn, _ => by simpa [totE] using hn
  | f :: t, n, hn, h => by
    rw [overF] at h
    split at h
    · cases h
    · rename_i h2
      have := overF_false t _ (by omega) h
      simp only [totE, List.map_cons, List.sum_cons] at this ⊢
      omega
theorem totE_mem {l : List FindP} {f : FindP} (h : f ∈ l) : f.edits.length ≤ totE l := by
  induction l with
  | nil => cases h
  | cons x t ih =>
    simp only [totE, List.map_cons, List.sum_cons] at ih ⊢
    rcases List.mem_cons.1 h with rfl | h
    · omega
    · have := ih h; omega
theorem greatF_false {l : List FindP} (h : greatF l = false) : l.length ≤ 100 ∧ totE l ≤ 300 ∧ ∀ f ∈ l, f.edits.length ≤ 300 := by
  unfold greatF at h
  simp only [Bool.or_eq_false_iff, decide_eq_false_iff_not] at h
  have := overF_false l 0 (by omega) h.2
  exact ⟨by omega, by omega, fun f hf => by have := totE_mem hf; omega⟩

set_option maxHeartbeats 4000000 in
set_option maxRecDepth 100000 in
theorem greatF_any (a : Option Addr) (cap : Nat) (l : List FindP) (hx : ∀ f ∈ l, FindOk f) (w : World) (hI : FindsIn w.heap.size w (.slice a l.length cap) l) :
    Calls Try.prog 14 #[.slice a l.length cap] w fun e w' => e = .returned (.bool (greatF l)) ∧ w' = w := by
  have HI := Lib.hid hI
  have HX := Lib.hid hx
  have mixed : Try.prog.follows Departure.mixedOrders = true := rfl
  clear hI hx
  by_cases h100 : 100 < l.length
  · have h100' : (100 : Int) < (l.length : Int) := by omega
    have HG : RowKit.Hid (greatF l = true) := by show _ = _; unfold greatF; simp [h100]
    go_enter Try.func14, Try.ntmps14
    go_wp2
    go_ret
    exact ⟨by rw [HG.out]; rfl, rfl⟩
  · have h100' : ¬ (100 : Int) < (l.length : Int) := by omega
    have HGG : RowKit.Hid (greatF l = overF 0 l) := by show _ = _; unfold greatF; simp [h100]
    go_enter Try.func14, Try.ntmps14
    go_wp2
    go_loopw [3, 4] (fun nv iv wr => ∃ (k n : Nat), k ≤ l.length ∧ iv = .int .i64 k ∧ nv = .int .i64 n ∧ n ≤ 300 ∧ RowKit.Hid (overF n (l.drop k) = overF 0 l) ∧ wr = w) (fun _ iv _ => l.length - (RowKit.intOf iv).toNat)
    case atStart => exact ⟨0, 0, Nat.zero_le _, rfl, rfl, by omega, rfl, rfl⟩
    case round =>
      obtain ⟨k, n, hk, rfl, rfl, hn, HW, rfl⟩ := hrel
      by_cases hlt : k < l.length
      · have hlt' : (k : Int) < (l.length : Int) := by omega
        have hfl := (HX.out l[k] (List.getElem_mem hlt)).len
        unfold reachBytes at hfl
        obtain ⟨g, off, rfl, hg, -, hc⟩ := HI.out.at hlt
        obtain ⟨-, -, -, aE, cE, c3, -⟩ := hc k hlt
        have HST : RowKit.Hid (overF n (l.drop k) = if 300 < n + l[k].edits.length then true else overF (n + l[k].edits.length) (l.drop (k + 1))) := by
          show _ = _
          rw [List.drop_eq_getElem_cons hlt, overF]
        clear hc
        generalize l[k].edits.length = m at *
        by_cases hm : 300 < n + m
        · have hm' : (300 : Int) < (n : Int) + (m : Int) := by omega
          have HG : RowKit.Hid (greatF l = true) := by show _ = _; rw [HGG.out, ← HW.out, HST.out, if_pos hm]
          go_wp2_with fail
          go_ret
          exact ⟨by rw [HG.out]; rfl, rfl⟩
        · have hm' : ¬ (300 : Int) < (n : Int) + (m : Int) := by omega
          have HW2 : RowKit.Hid (overF (n + m) (l.drop (k + 1)) = overF 0 l) := by show _ = _; rw [← HW.out, HST.out, if_neg hm]
          go_wp2_with fail
          go_roundw
          case rel => exact ⟨k + 1, n + m, by omega, by go_num, by go_num, by omega, HW2.out, by first | trivial | rfl⟩
          case measure => simp [RowKit.intOf]; omega
      · obtain rfl : k = l.length := by omega
        have HG : RowKit.Hid (greatF l = false) := by
          show _ = _
          rw [HGG.out, ← HW.out, List.drop_length]; rfl
        go_wp2_with fail
        go_ret
        exact ⟨by rw [HG.out]; rfl, rfl⟩

def aliveL : List FindP := [oneF 1 2, oneF 1 2, oneF 2 3, oneF 0 2]
theorem aliveL_choose : chooseP aliveL = [0, 2] := by decide +kernel
theorem aliveL_edits : (editsF aliveL [0, 2, 9]).length = 2 := by decide +kernel
theorem aliveL_clash : clashP (oneF 1 2).edits (oneF 1 2).edits = true := by decide +kernel
theorem aliveL_apart : clashP (oneF 1 2).edits (oneF 2 3).edits = false := by decide +kernel

/-- Four findings in a new block. -/
theorem four_finds {w : World} {L : Nat} {a b c d : FindP} {va vb vc vd : Value} {F : Nat × Nat}
    (h : w.heap[L]? = some (.cells #[.int .i64 a.rule, .int .i64 a.fr, .int .i64 a.to, va, .int .i64 b.rule, .int .i64 b.fr, .int .i64 b.to, vb, .int .i64 c.rule, .int .i64 c.fr, .int .i64 c.to, vc, .int .i64 d.rule, .int .i64 d.fr, .int .i64 d.to, vd] 37 F))
    (hL : L < w.heap.size) (ha : EditsIn w.heap.size w va a.edits) (hb : EditsIn w.heap.size w vb b.edits) (hc : EditsIn w.heap.size w vc c.edits) (hd : EditsIn w.heap.size w vd d.edits) :
    FindsIn w.heap.size w (.slice (some ⟨L, 0, none⟩) [a, b, c, d].length 4) [a, b, c, d] := by
  refine ⟨_, _, rfl, fun _ => ⟨L, 0, rfl, hL, fun j hj => ?_⟩⟩
  obtain ⟨a1, ca, ea, -⟩ := id ha
  obtain ⟨a2, cb, eb, -⟩ := id hb
  obtain ⟨a3, cc, ec, -⟩ := id hc
  obtain ⟨a4, cd, ed, -⟩ := id hd
  subst ea eb ec ed
  match j, hj with
  | 0, _ => exact ⟨by simp [World.cell?, h], by simp [World.cell?, h], by simp [World.cell?, h], _, _, by simp [World.cell?, h], ha⟩
  | 1, _ => exact ⟨by simp [World.cell?, h], by simp [World.cell?, h], by simp [World.cell?, h], _, _, by simp [World.cell?, h], hb⟩
  | 2, _ => exact ⟨by simp [World.cell?, h], by simp [World.cell?, h], by simp [World.cell?, h], _, _, by simp [World.cell?, h], hc⟩
  | 3, _ => exact ⟨by simp [World.cell?, h], by simp [World.cell?, h], by simp [World.cell?, h], _, _, by simp [World.cell?, h], hd⟩
end Go.Proofs.Ytkhpoeolnhfflaa
