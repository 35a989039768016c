/-
  stetref00.SameTexts of equal rows; facts of the catalogue. Conditions: none.
-/
import Derived.Test.YtlebikmiophghaaDoorRefNamed
namespace Go.Proofs.YtlebikmiophghaaDoor
open Go.RowKit Go.Lib

theorem rules_found : (rulesT.zipIdx.all fun p => (findP p.1.id == (p.2 : Int)) && (findP p.1.name == (p.2 : Int)) && p.1.tags.all fun t => (namedP t).contains p.2 && decide ((namedP t).Pairwise (· < ·))) = true := by decide +kernel
theorem rule_found (k : Nat) (h : k < rulesT.length) : findP rulesT[k].id = (k : Int) ∧ findP rulesT[k].name = (k : Int) ∧ ∀ t ∈ rulesT[k].tags, k ∈ namedP t ∧ (namedP t).Pairwise (· < ·) := by
  have hm : (rulesT[k], k) ∈ rulesT.zipIdx := by
    rw [List.mem_zipIdx_iff_getElem?]
    exact List.getElem?_eq_getElem h
  have := List.all_eq_true.1 rules_found _ hm
  simp only [Bool.and_eq_true, beq_iff_eq, List.all_eq_true, decide_eq_true_eq] at this
  obtain ⟨⟨h1, h2⟩, h3⟩ := this
  exact ⟨h1, h2, fun t ht => ⟨by simpa using (h3 t ht).1, (h3 t ht).2⟩⟩

/-- A slice holds texts. -/
def TextsAt (w : World) (g off : Nat) (l : List (List UInt8)) : Prop := g < w.heap.size ∧ ∀ j (h : j < l.length), w.cell? ⟨g, off + j, none⟩ = some (.string ⟨(l[j]).toArray⟩)
theorem TextsAt.below {w w' : World} {g off : Nat} {l : List (List UInt8)} (h : TextsAt w g off l) (hb : Below w.heap.size w w') : TextsAt w' g off l := by
  have z := hb.size
  exact ⟨by have := h.1; omega, fun j hj => by rw [hb.cell (p := ⟨g, off + j, none⟩) h.1]; exact h.2 j hj⟩

set_option maxHeartbeats 2000000 in
set_option maxRecDepth 100000 in
theorem sameTexts_any (l : List (List UInt8)) (hl : l.length ≤ 1000000) (g off cap g2 off2 cap2 : Nat) (w : World) (ha : TextsAt w g off l) (hb : TextsAt w g2 off2 l) :
    Calls Tryd.prog 30 #[.slice (some ⟨g, off, none⟩) l.length cap, .slice (some ⟨g2, off2, none⟩) l.length cap2] w fun e w' => e = .returned (.bool true) ∧ Below w.heap.size w w' := by
  have HA := Lib.hid ha
  have HB := Lib.hid hb
  clear ha hb
  go_enter Tryd.func30, Tryd.ntmps30
  go_wp2
  go_loopw [5] (fun i wr => ∃ k : Nat, k ≤ l.length ∧ i = .int .i64 k ∧ Below w.heap.size w wr) (fun i _ => l.length - (RowKit.intOf i).toNat)
  case atStart => exact ⟨0, Nat.zero_le _, rfl, Below.refl _ _⟩
  case round =>
    obtain ⟨k, hk, rfl, hbw⟩ := hrel
    by_cases hlt : k < l.length
    · have c0 := (HA.out.below hbw).2 k hlt
      have d0 := (HB.out.below hbw).2 k hlt
      have i1 : (k : Int) < (l.length : Int) := by omega
      go_wp2
      go_quiet (fail)
      go_wp2
      go_roundw
      case rel => exact ⟨k + 1, by omega, by go_num, below_drewN hbw⟩
      case measure => simp [RowKit.intOf]; omega
    · go_wp2
      go_ret
      exact ⟨rfl, hbw⟩
end Go.Proofs.YtlebikmiophghaaDoor
