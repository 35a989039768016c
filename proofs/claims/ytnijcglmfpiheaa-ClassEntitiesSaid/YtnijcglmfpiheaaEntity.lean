/-
  class.Entity and the reference's Entity: what each answers. Conditions: none.
-/
import Derived.Test.YtnijcglmfpiheaaEntities
namespace Go.Proofs.Ytnijcglmfpiheaa
open Go.RowKit Go.Maps Go.WideMaps

theorem lawS : Keyed Try.prog 9 := string_keyed Try.underlying9
theorem zeroI (w : World) : (zeroValue 3).run Try.prog w = .ok (.int .i64 0) w := by kernel_rfl

theorem entTab_ok : (entTab.all fun p => decide (p.1.length ≤ 1000) && (Lit.int .i64 p.2).wf) = true := by decide +kernel
theorem entTab_apart : entTab.Pairwise (fun p q => p.1 ≠ q.1) := by decide +kernel

set_option maxHeartbeats 4000000 in
set_option maxRecDepth 100000 in
theorem entities_any (w : World) : Calls Try.prog 30 #[] w fun e w' => e = .returned (.map (some w.heap.size)) ∧ w'.ownsMap Try.prog 9 (plainElem Try.prog 3) w.heap.size 53 (putAll (.map []) entTab) ∧ Below w.heap.size w w' := by
  have hmm := @run_makeMap Try.prog
  go_enter Try.func30, Try.ntmps30
  go_wp2_with (refine wpList_inserts 44 (.tmp 1) 9 3 lawS Try.underlying44 Try.underlying9 Try.underlying3 w.heap.size _ rfl entTab _ _ 0 (.map []) rfl entTab_ok (by decide) (World.ownsMap_made _ _ _ _) ?_; intro w1 hown1 hgrow1; simp only [entTab, List.length_cons, List.length_nil, List.drop_succ_cons, List.drop_zero, Nat.reduceAdd])
  go_ret
  exact ⟨rfl, hown1, ((Below.refl _ _).alloc (Nat.le_refl _) _).grown hgrow1 (by simp) (fun k hk => by cases hk; exact Nat.le_refl _)⟩

/-- What a name's entity is. -/
def entNum (k : List UInt8) : Int := (entFirst k entTab).getD 0
def entHas (k : List UInt8) : Bool := (entFirst k entTab).isSome

theorem ent_look (k : List UInt8) : has (putAll (.map []) entTab) (.string k) = entHas k ∧ (putAll (.map []) entTab).atKey (.string k) (.lit (.int .i64 0)) = .lit (.int .i64 (entNum k)) := by
  have h := putAll_find k entTab (.map []) ⟨[], rfl⟩ entTab_apart
  unfold entHas entNum
  cases hf : entFirst k entTab with
  | some n => rw [hf] at h; exact ⟨h.1, h.2 _⟩
  | none => rw [hf] at h; exact ⟨h.1, h.2 _⟩

set_option maxHeartbeats 1000000 in
theorem entity_any (s : ByteArray) (hs : s.size ≤ maxLen) (w : World) : Calls Try.prog 11 #[.string s] w fun e w' => e = .returned (.tuple #[.int .i64 (entNum s.data.toList), .bool (entHas s.data.toList)]) ∧ Below w.heap.size w w' := by
  have HL := Lib.hid (ent_look s.data.toList)
  go_enter Try.func11, Try.ntmps11
  go_wp2_with (first | (go_at_call 30; refine (entities_any _).mono ?_; rintro e w1 ⟨rfl, hown1, hb1⟩) | (at_lookup; refine wpList_lookup_own_ok_int _ rfl _ _ 44 rfl 9 3 .i64 lawS Try.underlying44 Try.underlying3 (zeroI _) w.heap.size 53 _ rfl hown1 _ _ rfl (keyOf_string_mk Try.underlying9 hs) ?_; intro c hat hwc))
  go_ret2
  have hc : c = entNum s.data.toList := by
    rw [HL.out.2] at hat
    injection hat with h; injection h with _ h; exact h.symm
  exact ⟨by rw [hc, HL.out.1]; rfl, hb1⟩
end Go.Proofs.Ytnijcglmfpiheaa
