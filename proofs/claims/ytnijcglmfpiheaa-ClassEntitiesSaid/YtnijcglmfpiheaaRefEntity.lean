/-
  The reference's Entity: what it answers. Conditions: none.
-/
import Derived.Test.YtnijcglmfpiheaaEntity
import Derived.Test.YtnijcglmfpiheaaLit
namespace Go.Proofs.Ytnijcglmfpiheaa
open Go.RowKit Go.Maps Go.WideMaps

theorem entFirst_drop (s : List UInt8) (l : List (List UInt8 × Int)) (k : Nat) (h : k < l.length) : entFirst s (l.drop k) = if l[k].1 = s then some l[k].2 else entFirst s (l.drop (k + 1)) := by
  rw [List.drop_eq_getElem_cons h]; rfl

def entNames : Array Value := (entTab.map fun p => Value.string ⟨p.1.toArray⟩).toArray
def entNums : Array Value := (entTab.map fun p => Value.int .i64 p.2).toArray
theorem entTab_len : entTab.length = 53 := by decide

def nameParts : Array (Nat × Operand) := (entTab.zipIdx.map fun p => (p.2, Operand.const (.string ⟨p.1.1.toArray⟩))).toArray
def numParts : Array (Nat × Operand) := (entTab.zipIdx.map fun p => (p.2, Operand.const (.int .i64 p.1.2))).toArray
theorem build_names (a : Act) (w : World) : (Instr.build 46 (nameParts.map fun (i, x) => (i, a.eval x))).run Try.prog w = .ok (.agg entNames) w := by kernel_rfl
theorem build_nums (a : Act) (w : World) : (Instr.build 47 (numParts.map fun (i, x) => (i, a.eval x))).run Try.prog w = .ok (.agg entNums) w := by kernel_rfl
theorem alloc_names (w : World) : (Instr.alloc 46 true (.tuple #[])).run Try.prog w = .ok (.pointer (some ⟨w.heap.size, 0, none⟩)) (w.alloc (.cells (Array.replicate 53 (.string ⟨#[]⟩)) 46)) := by kernel_rfl
theorem alloc_nums (w : World) : (Instr.alloc 47 true (.tuple #[])).run Try.prog w = .ok (.pointer (some ⟨w.heap.size, 0, none⟩)) (w.alloc (.cells (Array.replicate 53 (.int .i64 0)) 47)) := by kernel_rfl
theorem info_names : (Try.prog.info? 46).map (·.size) = some entNames.size := by kernel_rfl
theorem info_nums : (Try.prog.info? 47).map (·.size) = some entNums.size := by kernel_rfl

set_option maxHeartbeats 1000000 in
set_option maxRecDepth 100000 in
theorem ref_entity_any (s : ByteArray) (w : World) : Calls Try.prog 12 #[.string s] w fun e w' => e = .returned (.tuple #[.int .i64 (entNum s.data.toList), .bool (entHas s.data.toList)]) ∧ Below w.heap.size w w' := by
  go_enter Try.func12, Try.ntmps12
  go_wp2_with (first | (refine wpList_arrayLit 46 7 4 nameParts (Array.replicate 53 (.string ⟨#[]⟩)) entNames _ _ _ rfl build_names alloc_names info_names (by kernel_rfl) (by kernel_rfl) 21 rfl rfl ?_; simp only [List.drop_succ_cons, List.drop_zero]) | ((refine wpList_arrayLit 47 8 5 numParts (Array.replicate 53 (.int .i64 0)) entNums _ _ _ rfl build_nums alloc_nums info_nums (by kernel_rfl) (by kernel_rfl) 21 rfl rfl ?_); simp only [List.drop_succ_cons, List.drop_zero]))
  go_loopw [6] (fun i wr => ∃ k : Nat, k ≤ 53 ∧ i = .int .i64 k ∧ entFirst s.data.toList entTab = entFirst s.data.toList (entTab.drop k) ∧ (∀ (j : Nat) v, entNames[j]? = some v → wr.cell? ⟨w.heap.size, j, none⟩ = some v) ∧ (∀ (j : Nat) v, entNums[j]? = some v → wr.cell? ⟨w.heap.size + 1, j, none⟩ = some v) ∧ Below w.heap.size w wr) (fun i _ => 53 - (intOf i).toNat)
  case atStart =>
    refine ⟨0, Nat.zero_le _, rfl, rfl, ?_, ?_, ((Below.refl _ _).alloc (Nat.le_refl _) _).alloc (by simp) _⟩
    · intro j v h
      rw [World.cell?_alloc_lt _ _ _ (by simp), World.cell?_alloc_new]
      exact h
    · intro j v h
      rw [World.cell?_alloc_at _ _ _ _ (by simp)]
      exact h
  case round =>
    obtain ⟨k, hk, rfl, he, hc1, hc2, hbw⟩ := hrel
    have hlen := entTab_len
    by_cases hlt : k < 53
    · have c1 := hc1 k (.string ⟨(entTab[k]'(by omega)).1.toArray⟩) (by simp [entNames, hlen, hlt])
      have c2 := hc2 k (.int .i64 (entTab[k]'(by omega)).2) (by simp [entNums, hlen, hlt])
      have HE := Lib.hid he
      have HC1 := Lib.hid hc1
      have HC2 := Lib.hid hc2
      clear he hc1 hc2
      go_wp2
      · go_ret2
        rename_i h1 h2
        have hf : entFirst s.data.toList entTab = some (entTab[k]'(by omega)).2 := by
          rw [HE.out, entFirst_drop _ _ _ (by omega), if_pos (eq_of_beq (show (_ == s.data.toList) = true by rw [← ByteArray.toList_eq]; exact h2))]
        exact ⟨by rw [entNum, entHas, hf]; rfl, hbw⟩
      · rename_i h1 h2
        go_roundw
        case rel =>
          refine ⟨k + 1, by omega, by go_num, ?_, HC1.out, HC2.out, hbw⟩
          rw [HE.out, entFirst_drop _ _ _ (by omega), if_neg (beq_eq_false_iff_ne.1 (show (_ == s.data.toList) = false by rw [← ByteArray.toList_eq]; exact h2))]
        case measure => simp [intOf]; omega
    · go_wp2
      go_ret2
      obtain rfl : k = 53 := by omega
      have hf : entFirst s.data.toList entTab = none := by rw [he, List.drop_of_length_le (by omega)]; rfl
      exact ⟨by rw [entNum, entHas, hf]; rfl, hbw⟩
end Go.Proofs.Ytnijcglmfpiheaa
