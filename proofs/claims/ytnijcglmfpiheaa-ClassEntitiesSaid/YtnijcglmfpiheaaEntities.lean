/-
  The table of entities: class.Entity and the reference's Entity. Conditions: none.
-/
import Derived.Test.YtnijcglmfpiheaaChecked
import Derived.WalkKit
import Derived.WalkSpells
import Derived.Lib.Hide
import Derived.Maps.OwnSet
import Derived.Maps.OwnOps
import Derived.Carry
namespace Go.Proofs.Ytnijcglmfpiheaa
open Go.RowKit Go.Maps Go.WideMaps

/-- The entities: each name and its number. -/
def entTab : List (List UInt8 × Int) := [([97, 109, 112], 38), ([108, 116], 60), ([103, 116], 62), ([113, 117, 111, 116], 34), ([97, 112, 111, 115], 39), ([110, 98, 115, 112], 160), ([99, 111, 112, 121], 169), ([114, 101, 103], 174), ([116, 114, 97, 100, 101], 8482), ([104, 101, 108, 108, 105, 112], 8230), ([109, 100, 97, 115, 104], 8212), ([110, 100, 97, 115, 104], 8211), ([108, 115, 113, 117, 111], 8216), ([114, 115, 113, 117, 111], 8217), ([108, 100, 113, 117, 111], 8220), ([114, 100, 113, 117, 111], 8221), ([108, 97, 113, 117, 111], 171), ([114, 97, 113, 117, 111], 187), ([100, 101, 103], 176), ([112, 108, 117, 115, 109, 110], 177), ([116, 105, 109, 101, 115], 215), ([100, 105, 118, 105, 100, 101], 247), ([102, 114, 97, 99, 49, 50], 189), ([115, 101, 99, 116], 167), ([112, 97, 114, 97], 182), ([109, 105, 100, 100, 111, 116], 183), ([98, 117, 108, 108], 8226), ([101, 117, 114, 111], 8364), ([112, 111, 117, 110, 100], 163), ([121, 101, 110], 165), ([99, 101, 110, 116], 162), ([108, 97, 114, 114], 8592), ([114, 97, 114, 114], 8594), ([117, 97, 114, 114], 8593), ([100, 97, 114, 114], 8595), ([97, 117, 109, 108], 228), ([111, 117, 109, 108], 246), ([117, 117, 109, 108], 252), ([65, 117, 109, 108], 196), ([79, 117, 109, 108], 214), ([85, 117, 109, 108], 220), ([115, 122, 108, 105, 103], 223), ([101, 97, 99, 117, 116, 101], 233), ([101, 103, 114, 97, 118, 101], 232), ([99, 99, 101, 100, 105, 108], 231), ([110, 116, 105, 108, 100, 101], 241), ([97, 108, 112, 104, 97], 945), ([98, 101, 116, 97], 946), ([112, 105], 960), ([105, 110, 102, 105, 110], 8734), ([110, 101], 8800), ([108, 101], 8804), ([103, 101], 8805)]

/-- The first entry of a name. -/
def entFirst (k : List UInt8) : List (List UInt8 × Int) → Option Int
  | [] => none
  | p :: l => if p.1 = k then some p.2 else entFirst k l

def putAll (D : DataW Unit) : List (List UInt8 × Int) → DataW Unit
  | [] => D
  | p :: l => putAll (D.put (.string p.1) (.lit (.int .i64 p.2))) l

theorem isMap_putAll (l : List (List UInt8 × Int)) : ∀ D, IsMap D → IsMap (putAll D l) := by
  induction l with
  | nil => intro D h; exact h
  | cons p l ih => intro D h; exact ih _ (h.put _ _)

theorem isKeyLit_string (s : List UInt8) : WideAt.IsKeyLit (.string s) := by first | trivial | exact Or.inr (Or.inr ⟨_, rfl⟩) | simp [WideAt.IsKeyLit]

theorem putAll_other (k : List UInt8) (l : List (List UInt8 × Int)) : ∀ D, (∀ p ∈ l, p.1 ≠ k) → has (putAll D l) (.string k) = has D (.string k) ∧ ∀ z, (putAll D l).atKey (.string k) z = D.atKey (.string k) z := by
  induction l with
  | nil => intro D _; exact ⟨rfl, fun _ => rfl⟩
  | cons p l ih =>
    intro D h
    have hp : (Lit.string k) ≠ (Lit.string p.1) := by
      intro e; injection e with e; exact h p (by simp) e.symm
    obtain ⟨h1, h2⟩ := ih (D.put (.string p.1) (.lit (.int .i64 p.2))) (fun q hq => h q (by simp [hq]))
    exact ⟨h1.trans (has_put_other hp _), fun z => (h2 z).trans (atKey_put_other hp _ z)⟩

theorem putAll_find (k : List UInt8) (l : List (List UInt8 × Int)) : ∀ D, IsMap D → l.Pairwise (fun p q => p.1 ≠ q.1) →
    match entFirst k l with
    | some n => has (putAll D l) (.string k) = true ∧ ∀ z, (putAll D l).atKey (.string k) z = .lit (.int .i64 n)
    | none => has (putAll D l) (.string k) = has D (.string k) ∧ ∀ z, (putAll D l).atKey (.string k) z = D.atKey (.string k) z := by
  induction l with
  | nil => intro D _ _; exact ⟨rfl, fun _ => rfl⟩
  | cons p l ih =>
    intro D hD hp
    obtain ⟨h1, h2⟩ := List.pairwise_cons.1 hp
    by_cases e : p.1 = k
    · have := putAll_other k l (D.put (.string p.1) (.lit (.int .i64 p.2))) (fun q hq => by rw [← e]; exact (h1 q hq).symm)
      simp only [entFirst, e, if_true, putAll]
      rw [e] at this
      exact ⟨this.1.trans (has_put_same hD (isKeyLit_string k) _), fun z => (this.2 z).trans (atKey_put_same hD (isKeyLit_string k) _ z)⟩
    · have hne : (Lit.string k) ≠ (Lit.string p.1) := by intro h; injection h with h; exact e h.symm
      have := ih (D.put (.string p.1) (.lit (.int .i64 p.2))) (hD.put _ _) h2
      simp only [entFirst, e, if_false, putAll]
      cases hf : entFirst k l with
      | some n => rw [hf] at this; exact this
      | none =>
        rw [hf] at this
        exact ⟨this.1.trans (has_put_other hne _), fun z => (this.2 z).trans (atKey_put_other hne _ z)⟩

section
variable {P : Program} {ops : Array Oper} {Q : Exit → Act → World → Prop}

/-- A map literal's entries, one behind the other. -/
theorem wpList_inserts (t : TypeId) (m : Operand) (k e : TypeId) (K : Keyed P k) (ht : P.underlying t = some (.map k e)) (hk : P.underlying k = some .string) (he : P.underlying e = some (.int .i64)) (b : Nat) (a : Act) (hm : a.eval m = .map (some b)) :
    ∀ (ps : List (List UInt8 × Int)) (l : List Oper) (w : World) (n : Nat) (D : DataW Unit),
      (l.take ps.length).map (fun o => (o.dst, o.op, o.guard)) = ps.map (fun p => (none, Op.insert t m (.const (.string ⟨p.1.toArray⟩)) (.const (.int .i64 p.2)), none)) →
      (ps.all fun p => decide (p.1.length ≤ 1000) && (Lit.int .i64 p.2).wf) = true → n + ps.length ≤ 1000 → w.ownsMap P k (plainElem P e) b n D →
      (∀ w', w'.ownsMap P k (plainElem P e) b (n + ps.length) (putAll D ps) → w.grownBy w' (some b) → wpList P ops Q (l.drop ps.length) a w') →
      wpList P ops Q l a w := by
  intro ps
  induction ps with
  | nil =>
    intro l w n D _ _ _ hown hK
    exact hK w hown (World.grownBy.refl w _)
  | cons p ps ih =>
    intro l w n D hl hps hn hown hK
    cases l with
    | nil => simp at hl
    | cons o l =>
      simp only [List.length_cons, List.take_succ_cons, List.map_cons, List.cons.injEq, Prod.mk.injEq] at hl
      obtain ⟨⟨hd, ho, hg⟩, hl⟩ := hl
      simp only [List.all_cons, Bool.and_eq_true, decide_eq_true_eq] at hps
      obtain ⟨⟨hp1, hp2⟩, hps⟩ := hps
      simp only [List.length_cons] at hn
      refine wpList_plain hg fun K' hK' => ?_
      obtain ⟨w', hrun, r1, r2⟩ := hown.update K ht (by unfold maxLen; omega) (keyOf_string_mk hk (s := ⟨p.1.toArray⟩) (by unfold maxLen; show p.1.toArray.size ≤ _; simp; omega)) (plainElem_int he hp2)
      unfold Oper.wp
      simp only [execOp, ho, hm, BigFrame.eval_const, hrun, Result.andThen, Sem.run_bind, Sem.run_pure, Oper.upon, Act.put, hd]
      refine hK' _ _ ?_
      refine ih l w' (n + 1) _ hl hps (by omega) (by simpa using r1) (fun w2 h2 g2 => ?_)
      have h2' : w2.ownsMap P k (plainElem P e) b (n + (p :: ps).length) (putAll D (p :: ps)) := by
        have e1 : n + (p :: ps).length = n + 1 + ps.length := by simp; omega
        rw [e1]; exact h2
      exact hK w2 h2' (r2.trans g2)
end
end Go.Proofs.Ytnijcglmfpiheaa
