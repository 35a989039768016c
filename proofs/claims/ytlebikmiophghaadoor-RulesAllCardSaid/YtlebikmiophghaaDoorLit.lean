/-
  An array literal that goes into a new variable: three operations by one law. Conditions: none.
-/
import Derived.Test.YtlebikmiophghaaDoorChecked
import Derived.WalkKit
import Derived.WalkSpells
import Derived.Lib.Hide
namespace Go.Proofs.YtlebikmiophghaaDoor
open Go.RowKit

theorem setRow_alloc (w : World) (zs vs : Array Value) (T : TypeId) : (w.alloc (.cells zs T)).setRow w.heap.size vs = w.alloc (.cells vs T) := by
  unfold World.setRow World.alloc
  simp only [World.mk.injEq, and_true]
  apply Array.ext_getElem?
  intro i
  rw [Array.getElem?_modify, Array.getElem?_push, Array.getElem?_push]
  by_cases h : i = w.heap.size
  · subst h; simp
  · rw [if_neg (fun e => h e.symm), if_neg h, if_neg h]

section
variable {P : Program} {ops : Array Oper} {Q : Exit → Act → World → Prop}
theorem wpList_arrayLit (T : TypeId) (dB dA : Tmp) (parts : Array (Nat × Operand)) (zs vs : Array Value) (l : List Oper) (a : Act) (w : World)
    (hl : (l.take 3).map (fun o => (o.dst, o.op, o.guard)) = [(some dB, .build T parts, none), (some dA, .alloc T, none), (none, .store T (.tmp dA) (.tmp dB), none)])
    (hB : ∀ (a : Act) w, (Instr.build T (parts.map fun (i, x) => (i, a.eval x))).run P w = .ok (.agg vs) w)
    (hA : ∀ w, (Instr.alloc T true (.tuple #[])).run P w = .ok (.pointer (some ⟨w.heap.size, 0, none⟩)) (w.alloc (.cells zs T)))
    (hi : (P.info? T).map (·.size) = some vs.size) (hz : zs.size = vs.size) (h1 : vs.all (·.oneCell') = true) (n : Nat) (hsz : a.tmps.size = n) (hn : (decide (dA ≠ dB) && decide (dB < n) && decide (dA < n)) = true)
    (h : wpList P ops Q (l.drop 3) ((a.put (some dB) (.agg vs)).put (some dA) (.pointer (some ⟨w.heap.size, 0, none⟩))) (w.alloc (.cells vs T))) : wpList P ops Q l a w := by
  simp only [Bool.and_eq_true, decide_eq_true_eq] at hn
  obtain ⟨⟨hne, hsB⟩, hsA⟩ := hn
  rw [← hsz] at hsB hsA
  match l, hl with
  | [], hl => simp at hl
  | [_], hl => simp at hl
  | [_, _], hl => simp at hl
  | oB :: oA :: oS :: l, hl =>
    simp only [List.take_succ_cons, List.take_zero, List.map_cons, List.map_nil, List.cons.injEq, Prod.mk.injEq, and_true] at hl
    obtain ⟨⟨hB1, hB2, hB3⟩, ⟨hA1, hA2, hA3⟩, hS1, hS2, hS3⟩ := hl
    refine wpList_plain hB3 fun K hK => ?_
    unfold Oper.wp
    simp only [execOp, hB2, hB, Sem.run_bind, Sem.run_pure, Result.andThen_ok, Oper.upon_value, hB1]
    refine hK _ _ ?_
    refine wpList_plain hA3 fun K hK => ?_
    unfold Oper.wp
    simp only [execOp, hA2, hA, Sem.run_bind, Sem.run_pure, Result.andThen_ok, Oper.upon_value, hA1]
    refine hK _ _ ?_
    have eA : ((a.put (some dB) (.agg vs)).put (some dA) (.pointer (some ⟨w.heap.size, 0, none⟩))).eval (.tmp dA) = .pointer (some ⟨w.heap.size, 0, none⟩) := by
      simp [Act.eval, Act.put, hsA, Array.getD]
    have eB : ((a.put (some dB) (.agg vs)).put (some dA) (.pointer (some ⟨w.heap.size, 0, none⟩))).eval (.tmp dB) = .agg vs := by
      simp [Act.eval, Act.put, hsB, hne, Array.getD]
    refine wpList_store_row hS3 T _ _ hS2 w.heap.size vs eA eB T zs (heap_alloc_new w _) hi hz h1 ?_
    rw [hS1, setRow_alloc]
    exact h
end
end Go.Proofs.YtlebikmiophghaaDoor
