/-
  class.within and the classes that call it: what each answers. Conditions: none.
-/
import Derived.Test.YtkomodicpfbkhaaDoorChecked
import Derived.WalkKit
import Derived.WalkSpells
import Derived.Lib.Hide
namespace Go.Proofs.YtkomodicpfbkhaaDoor
open Go.RowKit

/-- Is a number in one of some spans? -/
def inSpans (r : Int) : List (Int × Int) → Bool
  | [] => false
  | p :: l => (decide (p.1 ≤ r) && decide (r ≤ p.2)) || inSpans r l

/-- The spans as cells. -/
def spanCells : List (Int × Int) → List Value
  | [] => []
  | p :: l => .int .i64 p.1 :: .int .i64 p.2 :: spanCells l

theorem spanCells_length (l : List (Int × Int)) : (spanCells l).length = 2 * l.length := by
  induction l with
  | nil => rfl
  | cons p l ih => simp only [spanCells, List.length_cons, ih]; omega

theorem spanCells_get (l : List (Int × Int)) : ∀ i (h : i < l.length), (spanCells l)[2 * i]? = some (.int .i64 l[i].1) ∧ (spanCells l)[2 * i + 1]? = some (.int .i64 l[i].2) := by
  induction l with
  | nil => intro i h; simp at h
  | cons p l ih =>
    intro i h
    cases i with
    | zero => exact ⟨rfl, rfl⟩
    | succ i =>
      have := ih i (by simpa using h)
      simpa [spanCells, show 2 * (i + 1) = 2 * i + 1 + 1 from by omega] using this

theorem inSpans_drop (r : Int) (l : List (Int × Int)) (k : Nat) (h : k < l.length) : inSpans r (l.drop k) = ((decide (l[k].1 ≤ r) && decide (r ≤ l[k].2)) || inSpans r (l.drop (k + 1))) := by
  rw [List.drop_eq_getElem_cons h]; rfl

set_option maxHeartbeats 1000000 in
theorem within_any (r : Int) (l : List (Int × Int)) (b : Nat) (w : World) (hl : l.length ≤ 1000) (hb : b < w.heap.size)
    (hc : ∀ j v, (spanCells l)[j]? = some v → w.cell? ⟨b, j, none⟩ = some v) :
    Calls Tryd.prog 44 #[.int .i64 r, .slice (some ⟨b, 0, none⟩) l.length l.length] w fun e w' => e = .returned (.bool (inSpans r l)) ∧ Below w.heap.size w w' := by
  go_enter Tryd.func44, Tryd.ntmps44
  go_wp2
  go_loopw [6, 9] (fun _ i wr => ∃ k : Nat, k ≤ l.length ∧ i = .int .i64 k ∧ inSpans r l = inSpans r (l.drop k) ∧ Below w.heap.size w wr) (fun _ i _ => l.length - (intOf i).toNat)
  case atStart => exact ⟨0, Nat.zero_le _, rfl, rfl, Below.refl _ _⟩
  case round =>
    obtain ⟨k, hk, rfl, he, hbw⟩ := hrel
    by_cases hlt : k < l.length
    · have hg := spanCells_get l k hlt
      have c0 : wr.cell? ⟨b, k * 2, none⟩ = some (.int .i64 l[k].1) := by
        rw [hbw.cell (p := ⟨b, k * 2, none⟩) hb]; exact hc _ _ (by rw [Nat.mul_comm]; exact hg.1)
      have c1 : wr.cell? ⟨b, k * 2 + 1, none⟩ = some (.int .i64 l[k].2) := by
        rw [hbw.cell (p := ⟨b, k * 2 + 1, none⟩) hb]; exact hc _ _ (by rw [Nat.mul_comm]; exact hg.2)
      have HE := Lib.hid he
      clear he hg hc
      go_wp2
      · go_ret
        rename_i h1 h2
        exact ⟨by rw [HE.out, inSpans_drop r l k hlt]; simp [h1, h2], hbw.alloc hbw.size _⟩
      · rename_i h1 h2
        go_roundw
        case rel => exact ⟨k + 1, by omega, by go_num, by rw [HE.out, inSpans_drop r l k hlt]; simp [h1, Int.not_le.2 h2], hbw.alloc hbw.size _⟩
        case measure => simp [intOf]; omega
      · rename_i h1
        go_roundw
        case rel => exact ⟨k + 1, by omega, by go_num, by rw [HE.out, inSpans_drop r l k hlt]; simp [h1], hbw.alloc hbw.size _⟩
        case measure => simp [intOf]; omega
    · go_wp2
      go_ret
      obtain rfl : k = l.length := by omega
      exact ⟨by rw [he]; simp [inSpans], hbw⟩
end Go.Proofs.YtkomodicpfbkhaaDoor
