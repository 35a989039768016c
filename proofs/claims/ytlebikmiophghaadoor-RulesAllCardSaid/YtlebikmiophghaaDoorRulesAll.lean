/-
  rules.All: the catalogue, in new memory. Conditions: none.
-/
import Derived.Test.YtlebikmiophghaaDoorRulesP
import Derived.Test.YtlebikmiophghaaDoorBase
import Derived.Test.YtlebikmiophghaaDoorShelf
namespace Go.Proofs.YtlebikmiophghaaDoor
open Go.RowKit Go.Lib

def strV (l : List UInt8) : Value := .string ⟨l.toArray⟩
def allocs (w : World) (l : List Obj) : World := l.foldl World.alloc w
def tagObjs : List Obj := rulesT.map fun r => .cells (r.tags.map strV).toArray 9
def ruleVals (L : Nat) : List (List Value) := rulesT.zipIdx.map fun p => [strV p.1.id, strV p.1.name, .slice (some ⟨L + p.2, 0, none⟩) p.1.tags.length p.1.tags.length, .int .i64 p.1.cls]
def ruleCells (L : Nat) : Array Value := (ruleVals L).flatten.toArray
def ruleParts (L : Nat) : Array (Nat × Value) := ((ruleVals L).zipIdx.map fun p => (p.2, Value.agg p.1.toArray)).toArray

set_option maxRecDepth 1000000 in
theorem build_rules (L : Nat) (w : World) : (Instr.buildSlice 53 40 (ruleParts L)).run Tryd.prog w = .ok (.slice (some ⟨w.heap.size, 0, none⟩) 40 40) (w.alloc (.cells (ruleCells L) 57)) := by kernel_rfl

theorem wp_buildSlice {P : Program} {o : Oper} {a : Act} {w w' : World} {K : Act → World → Prop} {Q : Exit → Act → World → Prop} (T : TypeId) (n : Nat) (parts : Array (Nat × Operand)) (ho : o.op = .buildSlice T n parts) (vals : Array (Nat × Value))
    (hv : (parts.map fun (i, x) => (i, a.eval x)) = vals) (w0 : World) (hw : w = w0) (v : Value) (h : (Instr.buildSlice T n vals).run P w0 = .ok v w') (hk : K (a.put o.dst v) w') : o.wp P a w K Q := by
  subst hw
  subst hv
  unfold Oper.wp
  simp only [execOp, ho, h, Sem.run_bind, Sem.run_pure, Result.andThen_ok, Oper.upon_value]
  exact hk

set_option maxHeartbeats 40000000 in
set_option maxRecDepth 1000000 in
theorem all_any (w : World) : Calls Tryd.prog 28 #[] w fun e w' => e = .returned (.slice (some ⟨(allocs w tagObjs).heap.size, 0, none⟩) 40 40) ∧ w' = (allocs w tagObjs).alloc (.cells (ruleCells w.heap.size) 57) := by
  obtain ⟨G, hG⟩ : ∃ G, G = (allocs w tagObjs).heap.size := ⟨_, rfl⟩
  have hb : (Instr.buildSlice 53 40 (ruleParts w.heap.size)).run Tryd.prog (allocs w tagObjs) = .ok (.slice (some ⟨G, 0, none⟩) 40 40) ((allocs w tagObjs).alloc (.cells (ruleCells w.heap.size) 57)) := by
    rw [hG]; exact build_rules _ _
  rw [← hG]
  clear hG
  generalize hF : (allocs w tagObjs).alloc (.cells (ruleCells w.heap.size) 57) = F at *
  clear hF
  have HB := Lib.hid hb
  clear hb
  go_enter Tryd.func28, Tryd.ntmps28
  go_wp2
  refine wp_buildSlice _ _ _ rfl (ruleParts w.heap.size) ?hv (allocs w tagObjs) ?hw _ HB.out ?_
  case hv => kernel_rfl
  case hw => kernel_rfl
  go_wp2
  go_ret
  exact ⟨rfl, rfl⟩
end Go.Proofs.YtlebikmiophghaaDoor
