/-
  The kind of a row of marks as a map's key; what the search remembers of each kind. Conditions: none.
-/
import Derived.Test.YtnijcglmfpiheaaEmphRow
import Derived.Test.YtnijcglmfpiheaaMapSet
import Derived.DeepKeys4
import Derived.Maps.OwnOps
set_option linter.unusedSimpArgs false
set_option linter.unusedVariables false
namespace Go.Proofs.Ytnijcglmfpiheaa
open Go.RowKit Go.Lib Go.WideMaps
open Go.Maps (Keyed)

theorem laidOutM : laidOutB Try.prog = true := by kernel_rfl
theorem kindFields : ∃ f0 f1 f2 : Field, Try.prog.underlying 92 = some (.struct #[f0, f1, f2]) ∧ f0.type = 5 ∧ f1.type = 4 ∧ f2.type = 3 ∧ f0.offset = 0 ∧ f1.offset = 1 ∧ f2.offset = 2 :=
  ⟨_, _, _, Try.underlying92, rfl, rfl, rfl, rfl, rfl, rfl⟩
theorem kindCells : Try.prog.cellsOf 92 = 3 := by kernel_rfl
theorem kindWide : (match Try.prog.underlying 92 with | some (.array _ _) | some (.struct _) => true | _ => false) = true := by kernel_rfl
theorem kindType : Try.prog.keyType 92 = true := by kernel_rfl
theorem kindLaw : Keyed Try.prog 92 := Keyed.of_law (deep_law_laid laidOutM (m := 2) (by omega) (of_decide_eq_true (by kernel_rfl)) (by kernel_rfl) kindWide)
theorem kindNoBlank : ∀ fs, Try.prog.underlying 92 = some (.struct fs) → fs.all (·.name != "_") = true := by
  have h : (match Try.prog.underlying 92 with | some (.struct fs) => fs.all (·.name != "_") | _ => false) = true := by kernel_rfl
  intro fs hf
  rw [hf] at h
  exact h
theorem typesSize : ∃ m, Try.prog.types.size = m + 2 := by
  have h : decide (2 ≤ Try.prog.types.size) = true := by kernel_rfl
  have h := of_decide_eq_true h
  exact ⟨Try.prog.types.size - 2, by omega⟩
theorem cells_u8 : Try.prog.cellsOf 5 = 1 := by kernel_rfl
theorem cells_bool : Try.prog.cellsOf 4 = 1 := by kernel_rfl
theorem cells_int : Try.prog.cellsOf 3 = 1 := by kernel_rfl

/-- A kind. -/
def kindVal (m : Int) (o : Bool) (z : Int) : Value := .agg #[.int .u8 m, .bool o, .int .i64 z]
theorem kind_lits (n : Nat) (c0 c1 c2 : Value) : Try.prog.keyLits (n + 1) 92 [c0, c1, c2] = ([Try.prog.keyLits n 5 [c0], Try.prog.keyLits n 4 [c1], Try.prog.keyLits n 3 [c2]].mapM id).map List.flatten := by
  obtain ⟨f0, f1, f2, hu, t0, t1, t2, o0, o1, o2⟩ := kindFields
  have hb := kindNoBlank _ hu
  conv => lhs; unfold Program.keyLits
  simp only [hu]
  rw [if_pos ⟨by rw [kindCells]; rfl, hb⟩]
  simp only [List.mapM_cons, List.mapM_nil, t0, t1, t2, o0, o1, o2, cells_u8, cells_bool, cells_int, List.drop_zero, List.drop_succ_cons, List.take_succ_cons, List.take_zero, id]
theorem kind_key {m : Int} {o : Bool} {z : Int} (hm : (Lit.int .u8 m).wf = true) (hz : (Lit.int .i64 z).wf = true) : ∃ kl, keyOf Try.prog 92 (kindVal m o z) = some kl := by
  obtain ⟨s, hs⟩ := typesSize
  obtain ⟨f0, f1, f2, hu, -⟩ := kindFields
  have hu8 : Try.prog.underlying 5 = some (.int .u8) := Try.underlying5
  have hub : Try.prog.underlying 4 = some .bool := Try.underlying4
  have hui : Try.prog.underlying 3 = some (.int .i64) := Try.underlying3
  have hf : (kindVal m o z).formed Try.prog 92 = true := by simp [kindVal, Value.formed, hu, kindCells]
  unfold keyOf
  simp only [hu]
  rw [if_pos (by rw [kindType, hf]; rfl), hs]
  refine ⟨.string (keyBytes [.int .u8 m, .bool o, .int .i64 z]), ?_⟩
  show ((Try.prog.keyLits (s + 1 + 1 + 1) 92 [.int .u8 m, .bool o, .int .i64 z]).map fun ls => Lit.string (keyBytes ls)) = _
  rw [kind_lits]
  have e0 : Try.prog.keyLits (s + 1 + 1) 5 [.int .u8 m] = some [.int .u8 m] := by simp [Program.keyLits, hu8, hm]
  have e1 : Try.prog.keyLits (s + 1 + 1) 4 [.bool o] = some [.bool o] := by simp [Program.keyLits, hub]
  have e2 : Try.prog.keyLits (s + 1 + 1) 3 [.int .i64 z] = some [.int .i64 z] := by simp [Program.keyLits, hui, hz]
  rw [e0, e1, e2]
  rfl
theorem kind_inv {v : Value} {kl : Lit} (h : keyOf Try.prog 92 v = some kl) : ∃ x : Int × Bool × Int, v = kindVal x.1 x.2.1 x.2.2 := by
  obtain ⟨xs, L, rfl, hl, -⟩ := keyOf_top kindWide h
  obtain ⟨s, hs⟩ := typesSize
  obtain ⟨f0, f1, f2, hu, -⟩ := kindFields
  have hu8 : Try.prog.underlying 5 = some (.int .u8) := Try.underlying5
  have hub : Try.prog.underlying 4 = some .bool := Try.underlying4
  have hui : Try.prog.underlying 3 = some (.int .i64) := Try.underlying3
  have hlen : xs.toList.length = 3 := by
    unfold Program.keyLits at hl
    simp only [hu] at hl
    split at hl
    · rename_i hc; rw [hc.1, kindCells]
    · cases hl
  obtain ⟨l⟩ := xs
  match l, hlen with
  | [c0, c1, c2], _ =>
    rw [hs] at hl
    have hl : Try.prog.keyLits (s + 1 + 1 + 1) 92 [c0, c1, c2] = some L := hl
    rw [kind_lits] at hl
    have h0 : ∃ m, c0 = .int .u8 m := by
      cases h0 : Try.prog.keyLits (s + 1 + 1) 5 [c0] with
      | none => rw [h0] at hl; simp at hl
      | some L0 =>
        cases c0 <;> simp [Program.keyLits, hu8] at h0
        exact ⟨_, by rw [h0.1.1]⟩
    have h1 : ∃ o, c1 = .bool o := by
      cases h1 : Try.prog.keyLits (s + 1 + 1) 4 [c1] with
      | none => rw [h1] at hl; simp at hl
      | some L0 =>
        cases c1 <;> simp [Program.keyLits, hub] at h1
        exact ⟨_, rfl⟩
    have h2 : ∃ z, c2 = .int .i64 z := by
      cases h2 : Try.prog.keyLits (s + 1 + 1) 3 [c2] with
      | none => rw [h2] at hl; simp at hl
      | some L0 =>
        cases c2 <;> simp [Program.keyLits, hui] at h2
        exact ⟨_, by rw [h2.1.1]⟩
    obtain ⟨m, rfl⟩ := h0
    obtain ⟨o, rfl⟩ := h1
    obtain ⟨z, rfl⟩ := h2
    exact ⟨(m, o, z), rfl⟩

/-- A row within the form's bounds. -/
structure RunOk (r : RunP) : Prop where
  mark : (Lit.int .u8 r.mark).wf = true
  n : (Lit.int .i64 r.n).wf = true
theorem tmod3 (n : Int) : -2 ≤ n.tmod 3 ∧ n.tmod 3 ≤ 2 := by
  have h1 := Int.lt_tmod_of_pos n (show (0 : Int) < 3 by omega)
  have h2 := Int.tmod_lt_of_pos n (show (0 : Int) < 3 by omega)
  omega
theorem wf_i64_small {z : Int} (h1 : -9223372036854775808 ≤ z) (h2 : z ≤ 9223372036854775807) : (Lit.int .i64 z).wf = true := by
  exact WalkArith.wf_i64 ⟨h1, h2⟩
def kindV (r : RunP) : Value := kindVal r.mark r.op (r.n.tmod 3)
theorem kindV_key {r : RunP} (h : RunOk r) : ∃ kl, keyOf Try.prog 92 (kindV r) = some kl :=
  kind_key h.mark (wf_i64_small (by have := tmod3 r.n; omega) (by have := tmod3 r.n; omega))
/-- Rows of one kind go with the same rows. -/
theorem goes_kind {o c d : RunP} (h : kindV c = kindV d) : goesP o c = goesP o d := by
  unfold kindV kindVal at h
  simp only [Value.agg.injEq, Array.mk.injEq, List.cons.injEq, Value.int.injEq, Value.bool.injEq, true_and, and_true] at h
  obtain ⟨h1, h2, h3⟩ := h
  unfold goesP fitsP
  rw [h1, h2, h3]

/-- What is remembered of each kind: of how many at the stack's bottom nothing is to be had. -/
def BotI (l : List RunP) (stack : List Nat) (D : DataW Unit) : Prop :=
  ∀ kl : Lit, ∃ b : Nat, D.atKey kl (.lit (.int .i64 0)) = .lit (.int .i64 (b : Int)) ∧ b ≤ stack.length ∧ ∀ c, c < l.length → keyOf Try.prog 92 (kindV l[c]!) = some kl → ∀ j, j < b → goesAt l c stack j = false
theorem botI_start (l : List RunP) (stack : List Nat) : BotI l stack (.map []) := fun kl => ⟨0, rfl, Nat.zero_le _, fun _ _ _ j hj => by omega⟩
/-- Nothing was found: all of the stack is in vain. -/
theorem botI_miss {l : List RunP} {stack : List Nat} {D : DataW Unit} (h : BotI l stack D) (hD : Maps.IsMap D) {c : Nat} (hc : c < l.length) {kl : Lit} (hk : keyOf Try.prog 92 (kindV l[c]!) = some kl) (hm : ∀ j, j < stack.length → goesAt l c stack j = false) :
    BotI l stack (D.put kl (.lit (.int .i64 (stack.length : Int)))) := fun kl' => by
  by_cases e : kl' = kl
  · subst e
    refine ⟨stack.length, Maps.atKey_put_same hD (kindLaw.key hk) _ _, Nat.le_refl _, fun c' hc' hk' j hj => ?_⟩
    have := kindLaw.inj hk' hk
    unfold goesAt
    rw [goes_kind this]
    exact hm j hj
  · rw [Maps.atKey_put_other e]
    exact h kl'
theorem goesAt_append {l : List RunP} {c j : Nat} {stack : List Nat} (x : List Nat) (h : j < stack.length) : goesAt l c (stack ++ x) j = goesAt l c stack j := by
  unfold goesAt
  rw [getElem!_pos (stack ++ x) j (by simp; omega), getElem!_pos stack j h, List.getElem_append_left h]
theorem botI_push {l : List RunP} {stack : List Nat} {D : DataW Unit} (h : BotI l stack D) (x : List Nat) : BotI l (stack ++ x) D := fun kl => by
  obtain ⟨b, h1, h2, h3⟩ := h kl
  exact ⟨b, h1, by simp; omega, fun c hc hk j hj => by rw [goesAt_append x (by omega)]; exact h3 c hc hk j hj⟩
theorem goesAt_take {l : List RunP} {c j n : Nat} {stack : List Nat} (hn : n ≤ stack.length) (h : j < n) : goesAt l c (stack.take n) j = goesAt l c stack j := by
  unfold goesAt
  rw [getElem!_pos (stack.take n) j (by simp; omega), getElem!_pos stack j (by omega), List.getElem_take]
/-- The stack is cut: what is remembered of each kind is no more than before, and no more than what is left. -/
theorem botI_cut {l : List RunP} {stack : List Nat} {D D' : DataW Unit} {n : Nat} (hn : n ≤ stack.length) (h : BotI l stack D)
    (hle : ∀ kl : Lit, ∃ b b' : Nat, D.atKey kl (.lit (.int .i64 0)) = .lit (.int .i64 (b : Int)) ∧ D'.atKey kl (.lit (.int .i64 0)) = .lit (.int .i64 (b' : Int)) ∧ b' ≤ b ∧ b' ≤ n) : BotI l (stack.take n) D' := fun kl => by
  obtain ⟨b, h1, h2, h3⟩ := h kl
  obtain ⟨b0, b', e1, e2, e3, e4⟩ := hle kl
  rw [h1] at e1
  injection e1 with e1
  injection e1 with _ e1
  refine ⟨b', e2, by simp; omega, fun c hc hk j hj => ?_⟩
  rw [goesAt_take hn (by omega)]
  exact h3 c hc hk j (by omega)
end Go.Proofs.Ytnijcglmfpiheaa
