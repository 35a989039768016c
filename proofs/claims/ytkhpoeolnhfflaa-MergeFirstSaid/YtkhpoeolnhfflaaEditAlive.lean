/-
  stetlaw02.alive and great: true; whether there is too much to go through. Conditions: none | the form's own bounds.
-/
import Derived.Test.YtkhpoeolnhfflaaEditApply
import Derived.Test.YtkhpoeolnhfflaaEditDoor
set_option linter.unusedSimpArgs false
set_option linter.unusedVariables false
namespace Go.Proofs.Ytkhpoeolnhfflaa
open Go.Shelf Go.RowKit Go.Lib Go.Sort

def liveA : List EditP := [⟨3, 3, ⟨#[33]⟩⟩, ⟨1, 2, ⟨#[120, 120]⟩⟩]
def liveB : List EditP := [⟨0, 2, ⟨#[]⟩⟩, ⟨1, 3, ⟨#[]⟩⟩]
theorem liveA_check : checkP 3 liveA = 0 := by decide +kernel
theorem liveB_check : checkP 3 liveB = 21 := by decide +kernel
theorem liveA_apply : (⟨(applyB [97, 98, 99] 0 (ss ltE liveA)).toArray⟩ : ByteArray) = ⟨#[97, 120, 120, 99, 33]⟩ := by decide +kernel
theorem liveA_move : moveP liveA 2 = 3 := by decide +kernel

/-- Two edits in a new block. -/
theorem two_edits {w : World} {L : Nat} {a b : EditP} {F : Nat × Nat} (h : w.heap[L]? = some (.cells #[.int .i64 a.fr, .int .i64 a.to, .string a.text, .int .i64 b.fr, .int .i64 b.to, .string b.text] 50 F)) (n : Nat) (hL : L < n) : EditsIn n w (.slice (some ⟨L, 0, none⟩) [a, b].length 2) [a, b] := by
  refine ⟨_, _, rfl, fun _ => ⟨L, 0, rfl, hL, fun j hj => ?_⟩⟩
  match j, hj with
  | 0, _ => exact ⟨by simp [World.cell?, h], by simp [World.cell?, h], by simp [World.cell?, h]⟩
  | 1, _ => exact ⟨by simp [World.cell?, h], by simp [World.cell?, h], by simp [World.cell?, h]⟩

set_option maxHeartbeats 4000000 in
set_option maxRecDepth 100000 in
theorem editAlive_any (w : World) : Calls Try.prog 29 #[] w fun e w' => e = .returned (.bool true) ∧ Below w.heap.size w w' := by
  have hA := heap_alloc_new w (.cells #[.int .i64 3, .int .i64 3, .string ⟨#[33]⟩, .int .i64 1, .int .i64 2, .string ⟨#[120, 120]⟩] 50)
  have hN : Below w.heap.size w (w.alloc (.cells #[.int .i64 3, .int .i64 3, .string ⟨#[33]⟩, .int .i64 1, .int .i64 2, .string ⟨#[120, 120]⟩] 50)) := (Below.refl _ w).alloc (Nat.le_refl _) _
  have zN : (w.alloc (.cells #[.int .i64 3, .int .i64 3, .string ⟨#[33]⟩, .int .i64 1, .int .i64 2, .string ⟨#[120, 120]⟩] 50)).heap.size = w.heap.size + 1 := by simp
  generalize hwN : w.alloc (.cells #[.int .i64 3, .int .i64 3, .string ⟨#[33]⟩, .int .i64 1, .int .i64 2, .string ⟨#[120, 120]⟩] 50) = wN at *
  have hIA : EditsIn wN.heap.size wN (.slice (some ⟨w.heap.size, 0, none⟩) liveA.length 2) liveA := two_edits (a := ⟨3, 3, ⟨#[33]⟩⟩) (b := ⟨1, 2, ⟨#[120, 120]⟩⟩) hA _ (by omega)
  have kA := editApply_ok ⟨#[97, 98, 99]⟩ (by decide) (some ⟨w.heap.size, 0, none⟩) 2 liveA (by decide) (by decide) wN hIA liveA_check
  rw [show (⟨#[97, 98, 99]⟩ : ByteArray).data.toList = [97, 98, 99] from rfl, liveA_apply] at kA
  have HWN := Lib.hid hwN
  go_enter Try.func29, Try.ntmps29
  go_wp2_with fail
  refine kA.mono ?_
  clear kA
  rintro e w1 ⟨rfl, b1⟩
  have z1 := b1.size
  have hb : ∀ e ∈ liveA, EdB e := by
    intro e he
    simp only [liveA, List.mem_cons, List.mem_nil_iff, or_false] at he
    rcases he with rfl | rfl <;> exact ⟨by decide, by decide, by decide, by decide⟩
  have kM := move_any (some ⟨w.heap.size, 0, none⟩) 2 liveA (by decide) hb 2 (by decide) (by decide) w1 ((hIA.below b1).mono z1)
  rw [liveA_move] at kM
  clear hIA hb hA
  go_wp2_with fail
  refine kM.mono ?_
  clear kM
  rintro e w2 ⟨rfl, b2⟩
  have z2 := b2.size
  have hB := heap_alloc_new w2 (.cells #[.int .i64 0, .int .i64 2, .string ⟨#[]⟩, .int .i64 1, .int .i64 3, .string ⟨#[]⟩] 50)
  have hN2 : Below w2.heap.size w2 (w2.alloc (.cells #[.int .i64 0, .int .i64 2, .string ⟨#[]⟩, .int .i64 1, .int .i64 3, .string ⟨#[]⟩] 50)) := (Below.refl _ w2).alloc (Nat.le_refl _) _
  have zN2 : (w2.alloc (.cells #[.int .i64 0, .int .i64 2, .string ⟨#[]⟩, .int .i64 1, .int .i64 3, .string ⟨#[]⟩] 50)).heap.size = w2.heap.size + 1 := by simp
  have hIB : EditsIn (w2.alloc (.cells #[.int .i64 0, .int .i64 2, .string ⟨#[]⟩, .int .i64 1, .int .i64 3, .string ⟨#[]⟩] 50)).heap.size (w2.alloc (.cells #[.int .i64 0, .int .i64 2, .string ⟨#[]⟩, .int .i64 1, .int .i64 3, .string ⟨#[]⟩] 50)) (.slice (some ⟨w2.heap.size, 0, none⟩) liveB.length 2) liveB := two_edits (a := ⟨0, 2, ⟨#[]⟩⟩) (b := ⟨1, 3, ⟨#[]⟩⟩) hB _ (by omega)
  have kC := editCheck_any ⟨#[97, 98, 99]⟩ (by decide) (some ⟨w2.heap.size, 0, none⟩) 2 liveB (by decide) _ hIB
  rw [show checkP (⟨#[97, 98, 99]⟩ : ByteArray).size liveB = 21 from liveB_check] at kC
  have HN := Lib.hid (hN.trans ((b1.mono (by omega)).trans ((b2.mono (by omega)).trans (hN2.mono (by omega)))))
  clear hIB hB hN hN2
  go_wp2_with fail
  refine kC.mono ?_
  clear kC
  rintro e w3 ⟨rfl, b3⟩
  go_wp2_with fail
  go_ret
  exact ⟨rfl, HN.out.trans (b3.mono (by omega))⟩

/-- How many bytes and edits there are. -/
def weighP : Nat → List EditP → Nat
  | n, [] => n
  | n, e :: t => if n ≤ 50000 then weighP (n + (e.text.size + 1)) t else n
def greatP (n : Nat) (l : List EditP) : Bool := decide (50000 < weighP n l) || decide (300 < l.length)

set_option maxHeartbeats 4000000 in
set_option maxRecDepth 100000 in
theorem great_any (s : ByteArray) (hs : s.size ≤ reachBytes) (a : Option Addr) (cap : Nat) (l : List EditP) (hl : l.length * 32 ≤ reachBytes) (hx : ∀ e ∈ l, e.text.size ≤ reachBytes) (w : World) (hI : EditsIn w.heap.size w (.slice a l.length cap) l) :
    Calls Try.prog 30 #[.string s, .slice a l.length cap] w fun e w' => e = .returned (.bool (greatP s.size l)) ∧ Below w.heap.size w w' := by
  unfold reachBytes at *
  have HI := Lib.hid hI
  have HX := Lib.hid hx
  have mixed : Try.prog.follows Departure.mixedOrders = true := rfl
  clear hI hx
  go_enter Try.func30, Try.ntmps30
  go_wp2
  go_loopw [5, 6] (fun nv iv wr => ∃ (k n : Nat), k ≤ l.length ∧ iv = .int .i64 k ∧ nv = .int .i64 n ∧ n ≤ 400000000000000 ∧ RowKit.Hid (weighP n (l.drop k) = weighP s.size l) ∧ Below w.heap.size w wr) (fun _ iv _ => l.length - (RowKit.intOf iv).toNat)
  case atStart => exact ⟨0, s.size, Nat.zero_le _, rfl, rfl, by omega, rfl, Below.refl _ _⟩
  case round =>
    obtain ⟨k, n, hk, rfl, rfl, hn, HW, hbw⟩ := hrel
    by_cases hlt : k < l.length
    · have hlt' : (k : Int) < (l.length : Int) := by omega
      by_cases hn5 : n ≤ 50000
      · have hn5' : (n : Int) ≤ 50000 := by omega
        have hx1 := HX.out l[k] (List.getElem_mem hlt)
        obtain ⟨g, off, rfl, hg, -, hc⟩ := (HI.out.below hbw).at hlt
        obtain ⟨c0, c1, c2⟩ := hc k hlt
        have HST : RowKit.Hid (weighP n (l.drop k) = weighP (n + (l[k].text.size + 1)) (l.drop (k + 1))) := by
          show _ = _
          rw [List.drop_eq_getElem_cons hlt, weighP, if_pos hn5]
        clear hc c0 c1
        generalize l[k] = e at *
        obtain ⟨x0, x1, x2⟩ := e
        simp only at c2 hx1
        go_wp2_with fail
        go_roundw
        case rel => exact ⟨k + 1, n + (x2.size + 1), by omega, by go_num, by go_num, by omega, by rw [← HST.out]; exact HW, hbw⟩
        case measure => simp [RowKit.intOf]; omega
      · have hn5' : ¬ (n : Int) ≤ 50000 := by omega
        have hn6 : (50000 : Int) < (n : Int) := by omega
        have HG : RowKit.Hid (greatP s.size l = true) := by
          show _ = _
          unfold greatP
          rw [← HW.out, List.drop_eq_getElem_cons hlt, weighP, if_neg hn5]
          simp; omega
        go_wp2_with fail
        go_ret
        exact ⟨by rw [HG.out]; rfl, hbw⟩
    · obtain rfl : k = l.length := by omega
      have hlt' : ¬ (l.length : Int) < (l.length : Int) := by omega
      have HG : RowKit.Hid (greatP s.size l = (decide (50000 < n) || decide (300 < l.length))) := by
        show _ = _
        unfold greatP
        rw [← HW.out, List.drop_of_length_le (Nat.le_refl _)]; rfl
      by_cases hn5 : 50000 < n
      · have hn5' : (50000 : Int) < (n : Int) := by omega
        go_wp2_with fail
        go_ret
        exact ⟨by rw [HG.out]; simp [hn5], hbw⟩
      · have hn5' : ¬ (50000 : Int) < (n : Int) := by omega
        go_wp2_with fail
        go_ret
        exact ⟨by rw [HG.out]; simp [hn5]; omega, hbw⟩

theorem weigh_le : ∀ (l : List EditP) (n : Nat), weighP n l ≤ 50000 → n ≤ 50000 ∧ (∀ e ∈ l, e.text.size ≤ 50000) ∧ n + l.length ≤ 50000
  | [], n, h => by
    have h' : n ≤ 50000 := h
    exact ⟨h', (fun e he => by cases he), by simpa using h'⟩
  | x :: t, n, h => by
    by_cases hn : n ≤ 50000
    · rw [weighP, if_pos hn] at h
      obtain ⟨h1, h2, h3⟩ := weigh_le t _ h
      refine ⟨hn, fun e he => ?_, by simp only [List.length_cons]; omega⟩
      rcases List.mem_cons.1 he with rfl | he
      · omega
      · exact h2 e he
    · rw [weighP, if_neg hn] at h; omega
theorem great_false {n : Nat} {l : List EditP} (h : greatP n l = false) : n ≤ 50000 ∧ (∀ e ∈ l, e.text.size ≤ 50000) ∧ l.length ≤ 300 := by
  unfold greatP at h
  simp only [Bool.or_eq_false_iff, decide_eq_false_iff_not] at h
  obtain ⟨h1, h2, _⟩ := weigh_le l n (by omega)
  exact ⟨h1, h2, by omega⟩
end Go.Proofs.Ytkhpoeolnhfflaa
