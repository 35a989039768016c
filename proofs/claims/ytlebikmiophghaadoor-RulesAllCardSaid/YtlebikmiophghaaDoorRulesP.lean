/-
  The catalogue of rules, as a plain list; what finds a rule. Conditions: none.
-/
import Derived.Test.YtlebikmiophghaaDoorLow
namespace Go.Proofs.YtlebikmiophghaaDoor
open Go.Lib

structure RuleP where
  id : List UInt8
  name : List UInt8
  tags : List (List UInt8)
  cls : Int
deriving DecidableEq
def rulesT : List RuleP := [⟨[77, 68, 48, 48, 49], [104, 101, 97, 100, 105, 110, 103, 45, 105, 110, 99, 114, 101, 109, 101, 110, 116], [[104, 101, 97, 100, 105, 110, 103, 115]], 0⟩,
  ⟨[77, 68, 48, 48, 50], [102, 105, 114, 115, 116, 45, 104, 101, 97, 100, 105, 110, 103, 45, 108, 101, 118, 101, 108], [[104, 101, 97, 100, 105, 110, 103, 115]], 0⟩,
  ⟨[77, 68, 48, 48, 51], [104, 101, 97, 100, 105, 110, 103, 45, 115, 116, 121, 108, 101], [[104, 101, 97, 100, 105, 110, 103, 115]], 0⟩,
  ⟨[77, 68, 48, 48, 52], [117, 108, 45, 115, 116, 121, 108, 101], [[98, 117, 108, 108, 101, 116], [117, 108]], 1⟩,
  ⟨[77, 68, 48, 48, 57], [110, 111, 45, 116, 114, 97, 105, 108, 105, 110, 103, 45, 115, 112, 97, 99, 101, 115], [[119, 104, 105, 116, 101, 115, 112, 97, 99, 101]], 1⟩,
  ⟨[77, 68, 48, 49, 48], [110, 111, 45, 104, 97, 114, 100, 45, 116, 97, 98, 115], [[119, 104, 105, 116, 101, 115, 112, 97, 99, 101], [104, 97, 114, 100, 95, 116, 97, 98]], 1⟩,
  ⟨[77, 68, 48, 49, 49], [110, 111, 45, 114, 101, 118, 101, 114, 115, 101, 100, 45, 108, 105, 110, 107, 115], [[108, 105, 110, 107, 115]], 0⟩,
  ⟨[77, 68, 48, 49, 50], [110, 111, 45, 109, 117, 108, 116, 105, 112, 108, 101, 45, 98, 108, 97, 110, 107, 115], [[119, 104, 105, 116, 101, 115, 112, 97, 99, 101], [98, 108, 97, 110, 107, 95, 108, 105, 110, 101, 115]], 1⟩,
  ⟨[77, 68, 48, 49, 51], [108, 105, 110, 101, 45, 108, 101, 110, 103, 116, 104], [[108, 105, 110, 101, 95, 108, 101, 110, 103, 116, 104]], 0⟩,
  ⟨[77, 68, 48, 49, 56], [110, 111, 45, 109, 105, 115, 115, 105, 110, 103, 45, 115, 112, 97, 99, 101, 45, 97, 116, 120], [[104, 101, 97, 100, 105, 110, 103, 115], [97, 116, 120], [115, 112, 97, 99, 101, 115]], 0⟩,
  ⟨[77, 68, 48, 49, 57], [110, 111, 45, 109, 117, 108, 116, 105, 112, 108, 101, 45, 115, 112, 97, 99, 101, 45, 97, 116, 120], [[104, 101, 97, 100, 105, 110, 103, 115], [97, 116, 120], [115, 112, 97, 99, 101, 115]], 1⟩,
  ⟨[77, 68, 48, 50, 49], [110, 111, 45, 109, 117, 108, 116, 105, 112, 108, 101, 45, 115, 112, 97, 99, 101, 45, 99, 108, 111, 115, 101, 100, 45, 97, 116, 120], [[104, 101, 97, 100, 105, 110, 103, 115], [97, 116, 120], [115, 112, 97, 99, 101, 115]], 1⟩,
  ⟨[77, 68, 48, 50, 50], [98, 108, 97, 110, 107, 115, 45, 97, 114, 111, 117, 110, 100, 45, 104, 101, 97, 100, 105, 110, 103, 115], [[104, 101, 97, 100, 105, 110, 103, 115], [98, 108, 97, 110, 107, 95, 108, 105, 110, 101, 115]], 1⟩,
  ⟨[77, 68, 48, 50, 51], [104, 101, 97, 100, 105, 110, 103, 45, 115, 116, 97, 114, 116, 45, 108, 101, 102, 116], [[104, 101, 97, 100, 105, 110, 103, 115], [115, 112, 97, 99, 101, 115]], 1⟩,
  ⟨[77, 68, 48, 50, 52], [110, 111, 45, 100, 117, 112, 108, 105, 99, 97, 116, 101, 45, 104, 101, 97, 100, 105, 110, 103], [[104, 101, 97, 100, 105, 110, 103, 115]], 0⟩,
  ⟨[77, 68, 48, 50, 53], [115, 105, 110, 103, 108, 101, 45, 104, 49], [[104, 101, 97, 100, 105, 110, 103, 115]], 0⟩,
  ⟨[77, 68, 48, 50, 54], [110, 111, 45, 116, 114, 97, 105, 108, 105, 110, 103, 45, 112, 117, 110, 99, 116, 117, 97, 116, 105, 111, 110], [[104, 101, 97, 100, 105, 110, 103, 115]], 0⟩,
  ⟨[77, 68, 48, 50, 55], [110, 111, 45, 109, 117, 108, 116, 105, 112, 108, 101, 45, 115, 112, 97, 99, 101, 45, 98, 108, 111, 99, 107, 113, 117, 111, 116, 101], [[98, 108, 111, 99, 107, 113, 117, 111, 116, 101], [119, 104, 105, 116, 101, 115, 112, 97, 99, 101]], 1⟩,
  ⟨[77, 68, 48, 50, 56], [110, 111, 45, 98, 108, 97, 110, 107, 115, 45, 98, 108, 111, 99, 107, 113, 117, 111, 116, 101], [[98, 108, 111, 99, 107, 113, 117, 111, 116, 101], [119, 104, 105, 116, 101, 115, 112, 97, 99, 101]], 0⟩,
  ⟨[77, 68, 48, 50, 57], [111, 108, 45, 112, 114, 101, 102, 105, 120], [[111, 108]], 0⟩,
  ⟨[77, 68, 48, 51, 48], [108, 105, 115, 116, 45, 109, 97, 114, 107, 101, 114, 45, 115, 112, 97, 99, 101], [[111, 108], [117, 108], [119, 104, 105, 116, 101, 115, 112, 97, 99, 101]], 1⟩,
  ⟨[77, 68, 48, 51, 49], [98, 108, 97, 110, 107, 115, 45, 97, 114, 111, 117, 110, 100, 45, 102, 101, 110, 99, 101, 115], [[99, 111, 100, 101], [98, 108, 97, 110, 107, 95, 108, 105, 110, 101, 115]], 1⟩,
  ⟨[77, 68, 48, 51, 50], [98, 108, 97, 110, 107, 115, 45, 97, 114, 111, 117, 110, 100, 45, 108, 105, 115, 116, 115], [[98, 117, 108, 108, 101, 116], [117, 108], [111, 108], [98, 108, 97, 110, 107, 95, 108, 105, 110, 101, 115]], 1⟩,
  ⟨[77, 68, 48, 51, 51], [110, 111, 45, 105, 110, 108, 105, 110, 101, 45, 104, 116, 109, 108], [[104, 116, 109, 108]], 0⟩,
  ⟨[77, 68, 48, 51, 52], [110, 111, 45, 98, 97, 114, 101, 45, 117, 114, 108, 115], [[108, 105, 110, 107, 115], [117, 114, 108]], 2⟩,
  ⟨[77, 68, 48, 51, 53], [104, 114, 45, 115, 116, 121, 108, 101], [[104, 114]], 1⟩,
  ⟨[77, 68, 48, 51, 54], [110, 111, 45, 101, 109, 112, 104, 97, 115, 105, 115, 45, 97, 115, 45, 104, 101, 97, 100, 105, 110, 103], [[104, 101, 97, 100, 105, 110, 103, 115], [101, 109, 112, 104, 97, 115, 105, 115]], 0⟩,
  ⟨[77, 68, 48, 51, 56], [110, 111, 45, 115, 112, 97, 99, 101, 45, 105, 110, 45, 99, 111, 100, 101], [[119, 104, 105, 116, 101, 115, 112, 97, 99, 101], [99, 111, 100, 101]], 0⟩,
  ⟨[77, 68, 48, 51, 57], [110, 111, 45, 115, 112, 97, 99, 101, 45, 105, 110, 45, 108, 105, 110, 107, 115], [[119, 104, 105, 116, 101, 115, 112, 97, 99, 101], [108, 105, 110, 107, 115]], 0⟩,
  ⟨[77, 68, 48, 52, 48], [102, 101, 110, 99, 101, 100, 45, 99, 111, 100, 101, 45, 108, 97, 110, 103, 117, 97, 103, 101], [[99, 111, 100, 101], [108, 97, 110, 103, 117, 97, 103, 101]], 0⟩,
  ⟨[77, 68, 48, 52, 49], [102, 105, 114, 115, 116, 45, 108, 105, 110, 101, 45, 104, 101, 97, 100, 105, 110, 103], [[104, 101, 97, 100, 105, 110, 103, 115]], 0⟩,
  ⟨[77, 68, 48, 52, 50], [110, 111, 45, 101, 109, 112, 116, 121, 45, 108, 105, 110, 107, 115], [[108, 105, 110, 107, 115]], 0⟩,
  ⟨[77, 68, 48, 52, 53], [110, 111, 45, 97, 108, 116, 45, 116, 101, 120, 116], [[105, 109, 97, 103, 101, 115]], 0⟩,
  ⟨[77, 68, 48, 52, 54], [99, 111, 100, 101, 45, 98, 108, 111, 99, 107, 45, 115, 116, 121, 108, 101], [[99, 111, 100, 101]], 0⟩,
  ⟨[77, 68, 48, 52, 55], [115, 105, 110, 103, 108, 101, 45, 116, 114, 97, 105, 108, 105, 110, 103, 45, 110, 101, 119, 108, 105, 110, 101], [[98, 108, 97, 110, 107, 95, 108, 105, 110, 101, 115]], 1⟩,
  ⟨[77, 68, 48, 52, 56], [99, 111, 100, 101, 45, 102, 101, 110, 99, 101, 45, 115, 116, 121, 108, 101], [[99, 111, 100, 101]], 0⟩,
  ⟨[77, 68, 48, 52, 57], [101, 109, 112, 104, 97, 115, 105, 115, 45, 115, 116, 121, 108, 101], [[101, 109, 112, 104, 97, 115, 105, 115]], 2⟩,
  ⟨[77, 68, 48, 53, 48], [115, 116, 114, 111, 110, 103, 45, 115, 116, 121, 108, 101], [[101, 109, 112, 104, 97, 115, 105, 115]], 2⟩,
  ⟨[77, 68, 48, 53, 50], [114, 101, 102, 101, 114, 101, 110, 99, 101, 45, 108, 105, 110, 107, 115], [[108, 105, 110, 107, 115]], 0⟩,
  ⟨[77, 68, 48, 53, 51], [117, 110, 117, 115, 101, 100, 45, 100, 101, 102, 105, 110, 105, 116, 105, 111, 110, 115], [[108, 105, 110, 107, 115]], 1⟩]

theorem rulesT_len : rulesT.length = 40 := by decide
def asciiB (l : List UInt8) : Bool := l.all fun b => decide (b.toNat < 128)
theorem asciiB_iff (l : List UInt8) : asciiB l = true ↔ ∀ b ∈ l, b.toNat < 128 := by
  unfold asciiB; rw [List.all_eq_true]; simp
theorem rules_good : (rulesT.all fun r => asciiB r.id && asciiB r.name && r.tags.all (fun t => asciiB t && (t.map lowB == t) && decide (t.length < 100)) && decide (1 ≤ r.tags.length) && decide (r.tags.length ≤ 4) && decide (r.id.length < 100) && decide (r.name.length < 100) && decide (0 ≤ r.cls) && decide (r.cls ≤ 2)) = true := by decide +kernel
theorem rule_facts (r : RuleP) (h : r ∈ rulesT) : (∀ b ∈ r.id, b.toNat < 128) ∧ (∀ b ∈ r.name, b.toNat < 128) ∧ (∀ t ∈ r.tags, (∀ b ∈ t, b.toNat < 128) ∧ t.map lowB = t ∧ t.length < 100) ∧ 1 ≤ r.tags.length ∧ r.tags.length ≤ 4 ∧ r.id.length < 100 ∧ r.name.length < 100 ∧ 0 ≤ r.cls ∧ r.cls ≤ 2 := by
  have := List.all_eq_true.1 rules_good r h
  simp only [Bool.and_eq_true, decide_eq_true_eq, List.all_eq_true, asciiB_iff, beq_iff_eq] at this
  obtain ⟨⟨⟨⟨⟨⟨⟨⟨h1, h2⟩, h3⟩, h4⟩, h5⟩, h6⟩, h7⟩, h8⟩, h9⟩ := this
  exact ⟨h1, h2, fun t ht => ⟨(h3 t ht).1.1, (h3 t ht).1.2, (h3 t ht).2⟩, h4, h5, h6, h7, h8, h9⟩

/-- Are two words one, but for capital letters? -/
def sameW (a b : List UInt8) : Bool := a.map lowB == b.map lowB
def hitB (w : List UInt8) (r : RuleP) : Bool := sameW r.id w || sameW r.name w
def tagB (w : List UInt8) (r : RuleP) : Bool := r.tags.any fun t => sameW t w
/-- The number of the first rule from a place on that fits. -/
def firstHit (w : List UInt8) : Nat → List RuleP → Int
  | _, [] => -1
  | i, r :: rs => if hitB w r then (i : Int) else firstHit w (i + 1) rs
def findP (w : List UInt8) : Int := firstHit w 0 rulesT
def tagHits (w : List UInt8) : Nat → List RuleP → List Nat
  | _, [] => []
  | i, r :: rs => if tagB w r then i :: tagHits w (i + 1) rs else tagHits w (i + 1) rs
def namedP (w : List UInt8) : List Nat := if 0 ≤ findP w then [(findP w).toNat] else tagHits w 0 rulesT

theorem firstHit_range (w : List UInt8) : ∀ (l : List RuleP) (i : Nat), -1 ≤ firstHit w i l ∧ firstHit w i l < i + l.length
  | [], i => by simp [firstHit]; omega
  | r :: rs, i => by
    have := firstHit_range w rs (i + 1)
    simp only [firstHit, List.length_cons]
    split <;> omega
theorem findP_range (w : List UInt8) : -1 ≤ findP w ∧ findP w < 40 := by
  have := firstHit_range w rulesT 0
  rw [rulesT_len] at this
  unfold findP; omega
theorem firstHit_drop (w : List UInt8) (k : Nat) (h : k < rulesT.length) : firstHit w k (rulesT.drop k) = if hitB w rulesT[k] then (k : Int) else firstHit w (k + 1) (rulesT.drop (k + 1)) := by
  rw [List.drop_eq_getElem_cons h]; rfl
theorem tagHits_drop (w : List UInt8) (k : Nat) (h : k < rulesT.length) : tagHits w k (rulesT.drop k) = if tagB w rulesT[k] then k :: tagHits w (k + 1) (rulesT.drop (k + 1)) else tagHits w (k + 1) (rulesT.drop (k + 1)) := by
  rw [List.drop_eq_getElem_cons h]; rfl

/-- Capital letters make no difference. -/
def upB (b : UInt8) : UInt8 := if 97 ≤ b.toNat ∧ b.toNat ≤ 122 then b - 32 else b
theorem upB_nat (b : UInt8) : (upB b).toNat = if 97 ≤ b.toNat ∧ b.toNat ≤ 122 then b.toNat - 32 else b.toNat := by
  unfold upB
  split
  · rename_i h
    rw [UInt8.toNat_sub_of_le _ _ (by rw [UInt8.le_iff_toNat_le]; show 32 ≤ _; omega)]
    rfl
  · rfl
theorem lowB_upB (b : UInt8) : lowB (upB b) = lowB b := by
  rw [← UInt8.toNat_inj, lowB_nat, lowB_nat, upB_nat]
  repeat' split
  all_goals omega
theorem sameW_up (a w : List UInt8) : sameW a (w.map upB) = sameW a w := by
  unfold sameW
  rw [List.map_map, show (lowB ∘ upB) = lowB from funext lowB_upB]
theorem findP_up (w : List UInt8) : findP (w.map upB) = findP w := by
  have : ∀ (l : List RuleP) i, firstHit (w.map upB) i l = firstHit w i l := by
    intro l
    induction l with
    | nil => intro i; rfl
    | cons r rs ih => intro i; simp only [firstHit, show hitB (w.map upB) r = hitB w r from by simp only [hitB, sameW_up], ih]
  exact this _ _
theorem namedP_up (w : List UInt8) : namedP (w.map upB) = namedP w := by
  have : ∀ (l : List RuleP) i, tagHits (w.map upB) i l = tagHits w i l := by
    intro l
    induction l with
    | nil => intro i; rfl
    | cons r rs ih => intro i; simp only [tagHits, show tagB (w.map upB) r = tagB w r from by simp only [tagB, sameW_up], ih]
  unfold namedP
  rw [findP_up, this]
end Go.Proofs.YtlebikmiophghaaDoor
