/-
  No cell of these rows narrows 'for every input' (looked for: loops, veiled, ifaces, maps, wideKeys, modest, calm, conditions, laid).
  DERIVED. THE GIVEN ROWS OF THIS SEAT. 8 by the template 'for every input the law returns true; each argument reads behind the call as it read before'; 0 by the template 'total and deterministic' (their statements: YtnijcglmfpiheaaTotals.lean).
  GIVEN WITH THE SEED: the statements are not yours to turn. If you find one false, say at which input.
  Laid BY PROGRAM, IN A SANDBOX (cutbox-rows.mjs): the forced cells as the released guide's own fill.sh prints them over the translation 6544f2c4dd9c663c… (all of the seat's roots in one cut). By AI agents, Wed Nov 11 2026. No macro, syntax, notation, axiom, sorry.
-/
import Derived.Test.YtnijcglmfpiheaaChecked
import GoSem.Claim
import GoSem.ClaimJoined
import GoSem.ClaimMapViews
import Derived.JoinedTies
import Derived.KernelRfl
namespace Go.Proofs.Ytnijcglmfpiheaa
/- THE CELL 'sum', in the pinned program and in every row, IS THE sha256 OF THE DUMP (.gsa) THAT YtnijcglmfpiheaaProg.lean LOADS. Nothing in Lean hashes anything: it is a label: what it is worth is what the hold of that sum in a sandbox is worth. -/
noncomputable def Try.pinned : Pinned := { name := "ytnijcglmfpiheaa", sum := "6544f2c4dd9c663c61255ab3d1a15ba88a0e48e7922fb24945a58c5bde801eca", checked := Try.checked }
namespace Rows
def none {H : Type} : Left H := { results := [], args := [] }

/-- 'stetlaw03.ClassEntities': WHATEVER THE INPUT: true; the input reads as it did. -/
def classEntitiesSpec : ChangeSpec := { name := "classEntities", fn := fun _ => fun
  | [d] => { results := [.lit (.bool true)], args := [d] }
  | _ => none }
def classEntitiesRow : OpenClaim := { program := "ytnijcglmfpiheaa", sum := "6544f2c4dd9c663c61255ab3d1a15ba88a0e48e7922fb24945a58c5bde801eca", func := "stet/stetlaw03.ClassEntities", spec := "classEntities", plainKeys := false, apart := false }
def ClassEntitiesSaid : Prop := classEntitiesRow.holds Try.pinned (OpenSpec.ofChange classEntitiesSpec)

/-- ITS FALSE NEIGHBOUR: 'it returns false'. Refute it at one input. -/
def classEntitiesWrong : ChangeSpec := { name := "classEntities", fn := fun _ => fun
  | [d] => { results := [.lit (.bool false)], args := [d] }
  | _ => none }
def ClassEntitiesWrongFalsely : Prop := classEntitiesRow.holds Try.pinned (OpenSpec.ofChange classEntitiesWrong)

/-- 'stetlaw03.ClassAnswers': WHATEVER THE INPUT: true; the input reads as it did. -/
def classAnswersSpec : ChangeSpec := { name := "classAnswers", fn := fun _ => fun
  | [d1, d2] => { results := [.lit (.bool true)], args := [d1, d2] }
  | _ => none }
def classAnswersRow : OpenClaim := { program := "ytnijcglmfpiheaa", sum := "6544f2c4dd9c663c61255ab3d1a15ba88a0e48e7922fb24945a58c5bde801eca", func := "stet/stetlaw03.ClassAnswers", spec := "classAnswers", plainKeys := false, apart := false }
def ClassAnswersSaid : Prop := classAnswersRow.holds Try.pinned (OpenSpec.ofChange classAnswersSpec)

/-- ITS FALSE NEIGHBOUR: 'it returns false'. Refute it at one input. -/
def classAnswersWrong : ChangeSpec := { name := "classAnswers", fn := fun _ => fun
  | [d1, d2] => { results := [.lit (.bool false)], args := [d1, d2] }
  | _ => none }
def ClassAnswersWrongFalsely : Prop := classAnswersRow.holds Try.pinned (OpenSpec.ofChange classAnswersWrong)

/-- 'stetlaw01.TextCleans': WHATEVER THE INPUT: true; the input reads as it did. -/
def textCleansSpec : ChangeSpec := { name := "textCleans", fn := fun _ => fun
  | [d] => { results := [.lit (.bool true)], args := [d] }
  | _ => none }
def textCleansRow : OpenClaim := { program := "ytnijcglmfpiheaa", sum := "6544f2c4dd9c663c61255ab3d1a15ba88a0e48e7922fb24945a58c5bde801eca", func := "stet/stetlaw01.TextCleans", spec := "textCleans", inPlace := ["internal/abi.NoEscape"], plainKeys := false, apart := false }
def TextCleansSaid : Prop := textCleansRow.holds Try.pinned (OpenSpec.ofChange textCleansSpec)

/-- ITS FALSE NEIGHBOUR: 'it returns false'. Refute it at one input. -/
def textCleansWrong : ChangeSpec := { name := "textCleans", fn := fun _ => fun
  | [d] => { results := [.lit (.bool false)], args := [d] }
  | _ => none }
def TextCleansWrongFalsely : Prop := textCleansRow.holds Try.pinned (OpenSpec.ofChange textCleansWrong)

/-- 'stetlaw12.EmphPairs': WHATEVER THE INPUT: true; the input reads as it did. -/
def emphPairsSpec : ChangeSpec := { name := "emphPairs", fn := fun _ => fun
  | [d] => { results := [.lit (.bool true)], args := [d] }
  | _ => none }
def emphPairsRow : OpenClaim := { program := "ytnijcglmfpiheaa", sum := "6544f2c4dd9c663c61255ab3d1a15ba88a0e48e7922fb24945a58c5bde801eca", func := "stet/stetlaw12.EmphPairs", spec := "emphPairs", unfollowed := true, recurses := true, plainKeys := false, apart := false }
def EmphPairsSaid : Prop := emphPairsRow.holds Try.pinned (OpenSpec.ofChange emphPairsSpec)

/-- ITS FALSE NEIGHBOUR: 'it returns false'. Refute it at one input. -/
def emphPairsWrong : ChangeSpec := { name := "emphPairs", fn := fun _ => fun
  | [d] => { results := [.lit (.bool false)], args := [d] }
  | _ => none }
def EmphPairsWrongFalsely : Prop := emphPairsRow.holds Try.pinned (OpenSpec.ofChange emphPairsWrong)

/-- 'stetlaw12.EmphCounts': WHATEVER THE INPUT: true; the input reads as it did. -/
def emphCountsSpec : ChangeSpec := { name := "emphCounts", fn := fun _ => fun
  | [d] => { results := [.lit (.bool true)], args := [d] }
  | _ => none }
def emphCountsRow : OpenClaim := { program := "ytnijcglmfpiheaa", sum := "6544f2c4dd9c663c61255ab3d1a15ba88a0e48e7922fb24945a58c5bde801eca", func := "stet/stetlaw12.EmphCounts", spec := "emphCounts", unfollowed := true, recurses := true, plainKeys := false, apart := false }
def EmphCountsSaid : Prop := emphCountsRow.holds Try.pinned (OpenSpec.ofChange emphCountsSpec)

/-- ITS FALSE NEIGHBOUR: 'it returns false'. Refute it at one input. -/
def emphCountsWrong : ChangeSpec := { name := "emphCounts", fn := fun _ => fun
  | [d] => { results := [.lit (.bool false)], args := [d] }
  | _ => none }
def EmphCountsWrongFalsely : Prop := emphCountsRow.holds Try.pinned (OpenSpec.ofChange emphCountsWrong)

/-- 'stetlaw12.EmphNested': WHATEVER THE INPUT: true; the input reads as it did. -/
def emphNestedSpec : ChangeSpec := { name := "emphNested", fn := fun _ => fun
  | [d] => { results := [.lit (.bool true)], args := [d] }
  | _ => none }
def emphNestedRow : OpenClaim := { program := "ytnijcglmfpiheaa", sum := "6544f2c4dd9c663c61255ab3d1a15ba88a0e48e7922fb24945a58c5bde801eca", func := "stet/stetlaw12.EmphNested", spec := "emphNested", unfollowed := true, recurses := true, plainKeys := false, apart := false }
def EmphNestedSaid : Prop := emphNestedRow.holds Try.pinned (OpenSpec.ofChange emphNestedSpec)

/-- ITS FALSE NEIGHBOUR: 'it returns false'. Refute it at one input. -/
def emphNestedWrong : ChangeSpec := { name := "emphNested", fn := fun _ => fun
  | [d] => { results := [.lit (.bool false)], args := [d] }
  | _ => none }
def EmphNestedWrongFalsely : Prop := emphNestedRow.holds Try.pinned (OpenSpec.ofChange emphNestedWrong)

/-- 'stetlaw12.EmphApart': WHATEVER THE INPUT: true; the input reads as it did. -/
def emphApartSpec : ChangeSpec := { name := "emphApart", fn := fun _ => fun
  | [d1, d2] => { results := [.lit (.bool true)], args := [d1, d2] }
  | _ => none }
def emphApartRow : OpenClaim := { program := "ytnijcglmfpiheaa", sum := "6544f2c4dd9c663c61255ab3d1a15ba88a0e48e7922fb24945a58c5bde801eca", func := "stet/stetlaw12.EmphApart", spec := "emphApart", unfollowed := true, recurses := true, plainKeys := false, apart := false }
def EmphApartSaid : Prop := emphApartRow.holds Try.pinned (OpenSpec.ofChange emphApartSpec)

/-- ITS FALSE NEIGHBOUR: 'it returns false'. Refute it at one input. -/
def emphApartWrong : ChangeSpec := { name := "emphApart", fn := fun _ => fun
  | [d1, d2] => { results := [.lit (.bool false)], args := [d1, d2] }
  | _ => none }
def EmphApartWrongFalsely : Prop := emphApartRow.holds Try.pinned (OpenSpec.ofChange emphApartWrong)

/-- 'stetlaw12.EmphTwo': WHATEVER THE INPUT: true; the input reads as it did. -/
def emphTwoSpec : ChangeSpec := { name := "emphTwo", fn := fun _ => fun
  | [d1, d2] => { results := [.lit (.bool true)], args := [d1, d2] }
  | _ => none }
def emphTwoRow : OpenClaim := { program := "ytnijcglmfpiheaa", sum := "6544f2c4dd9c663c61255ab3d1a15ba88a0e48e7922fb24945a58c5bde801eca", func := "stet/stetlaw12.EmphTwo", spec := "emphTwo", unfollowed := true, recurses := true, plainKeys := false, apart := false }
def EmphTwoSaid : Prop := emphTwoRow.holds Try.pinned (OpenSpec.ofChange emphTwoSpec)

/-- ITS FALSE NEIGHBOUR: 'it returns false'. Refute it at one input. -/
def emphTwoWrong : ChangeSpec := { name := "emphTwo", fn := fun _ => fun
  | [d1, d2] => { results := [.lit (.bool false)], args := [d1, d2] }
  | _ => none }
def EmphTwoWrongFalsely : Prop := emphTwoRow.holds Try.pinned (OpenSpec.ofChange emphTwoWrong)

/- THE SECOND FORM. 'bulk': how many values and letters a reading holds, each counted each time it is reached (what is shared counts as often as it is met; a slice's spare places count too). A statement '..UptoSaid' is the law's where the arguments, and the package variables that the reading takes, are together of bulk at most 1048576: NARROWER than '..Said'. Prove '..Said' where nothing that the law and all that it calls make is longer than what came in: it says more and counts as full. Else prove '..UptoSaid'. A law counts once. -/
mutual
def uptoBulk {H : Type} : DataW H → Nat
  | .lit (.string bytes) => bytes.length + 1
  | .lit _ => 1
  | .nil => 1
  | .ptr d => uptoBulk d + 1
  | .slice elems spare => uptoBulkAll elems + uptoBulkAll spare + 1
  | .agg parts => uptoBulkAll parts + 1
  | .iface _ d => uptoBulk d + 1
  | .map entries => uptoBulkEntries entries + 1
  | .held _ => 1
def uptoBulkAll {H : Type} : List (DataW H) → Nat
  | [] => 0
  | d :: r => uptoBulk d + uptoBulkAll r
def uptoBulkEntries {H : Type} : List (Lit × DataW H) → Nat
  | [] => 0
  | x :: r => uptoBulkEntry x + uptoBulkEntries r
def uptoBulkEntry {H : Type} : Lit × DataW H → Nat
  | (.string bytes, d) => bytes.length + uptoBulk d + 1
  | (_, d) => uptoBulk d + 1
 end
def uptoSmall : (H : Type) → List (DataW H) → Bool := fun _ ds => decide (uptoBulkAll ds ≤ 1048576)
def OpenSpec.upto (s : _root_.Go.ChangeSpec) : _root_.Go.OpenSpec := { _root_.Go.OpenSpec.ofChange s with cond := some uptoSmall }

/-- 'stetlaw03.ClassEntities', WHERE WHAT IT READS IS OF BULK AT MOST 1048576: true; the input reads as it did. -/
def classEntitiesUptoRow : OpenClaim := { program := "ytnijcglmfpiheaa", sum := "6544f2c4dd9c663c61255ab3d1a15ba88a0e48e7922fb24945a58c5bde801eca", func := "stet/stetlaw03.ClassEntities", spec := "classEntities", plainKeys := false, apart := false, narrowed := true }
def ClassEntitiesUptoSaid : Prop := classEntitiesUptoRow.holds Try.pinned (OpenSpec.upto classEntitiesSpec)

/-- 'stetlaw03.ClassAnswers', WHERE WHAT IT READS IS OF BULK AT MOST 1048576: true; the input reads as it did. -/
def classAnswersUptoRow : OpenClaim := { program := "ytnijcglmfpiheaa", sum := "6544f2c4dd9c663c61255ab3d1a15ba88a0e48e7922fb24945a58c5bde801eca", func := "stet/stetlaw03.ClassAnswers", spec := "classAnswers", plainKeys := false, apart := false, narrowed := true }
def ClassAnswersUptoSaid : Prop := classAnswersUptoRow.holds Try.pinned (OpenSpec.upto classAnswersSpec)

/-- 'stetlaw01.TextCleans', WHERE WHAT IT READS IS OF BULK AT MOST 1048576: true; the input reads as it did. -/
def textCleansUptoRow : OpenClaim := { program := "ytnijcglmfpiheaa", sum := "6544f2c4dd9c663c61255ab3d1a15ba88a0e48e7922fb24945a58c5bde801eca", func := "stet/stetlaw01.TextCleans", spec := "textCleans", inPlace := ["internal/abi.NoEscape"], plainKeys := false, apart := false, narrowed := true }
def TextCleansUptoSaid : Prop := textCleansUptoRow.holds Try.pinned (OpenSpec.upto textCleansSpec)

/-- 'stetlaw12.EmphPairs', WHERE WHAT IT READS IS OF BULK AT MOST 1048576: true; the input reads as it did. -/
def emphPairsUptoRow : OpenClaim := { program := "ytnijcglmfpiheaa", sum := "6544f2c4dd9c663c61255ab3d1a15ba88a0e48e7922fb24945a58c5bde801eca", func := "stet/stetlaw12.EmphPairs", spec := "emphPairs", unfollowed := true, recurses := true, plainKeys := false, apart := false, narrowed := true }
def EmphPairsUptoSaid : Prop := emphPairsUptoRow.holds Try.pinned (OpenSpec.upto emphPairsSpec)

/-- 'stetlaw12.EmphCounts', WHERE WHAT IT READS IS OF BULK AT MOST 1048576: true; the input reads as it did. -/
def emphCountsUptoRow : OpenClaim := { program := "ytnijcglmfpiheaa", sum := "6544f2c4dd9c663c61255ab3d1a15ba88a0e48e7922fb24945a58c5bde801eca", func := "stet/stetlaw12.EmphCounts", spec := "emphCounts", unfollowed := true, recurses := true, plainKeys := false, apart := false, narrowed := true }
def EmphCountsUptoSaid : Prop := emphCountsUptoRow.holds Try.pinned (OpenSpec.upto emphCountsSpec)

/-- 'stetlaw12.EmphNested', WHERE WHAT IT READS IS OF BULK AT MOST 1048576: true; the input reads as it did. -/
def emphNestedUptoRow : OpenClaim := { program := "ytnijcglmfpiheaa", sum := "6544f2c4dd9c663c61255ab3d1a15ba88a0e48e7922fb24945a58c5bde801eca", func := "stet/stetlaw12.EmphNested", spec := "emphNested", unfollowed := true, recurses := true, plainKeys := false, apart := false, narrowed := true }
def EmphNestedUptoSaid : Prop := emphNestedUptoRow.holds Try.pinned (OpenSpec.upto emphNestedSpec)

/-- 'stetlaw12.EmphApart', WHERE WHAT IT READS IS OF BULK AT MOST 1048576: true; the input reads as it did. -/
def emphApartUptoRow : OpenClaim := { program := "ytnijcglmfpiheaa", sum := "6544f2c4dd9c663c61255ab3d1a15ba88a0e48e7922fb24945a58c5bde801eca", func := "stet/stetlaw12.EmphApart", spec := "emphApart", unfollowed := true, recurses := true, plainKeys := false, apart := false, narrowed := true }
def EmphApartUptoSaid : Prop := emphApartUptoRow.holds Try.pinned (OpenSpec.upto emphApartSpec)

/-- 'stetlaw12.EmphTwo', WHERE WHAT IT READS IS OF BULK AT MOST 1048576: true; the input reads as it did. -/
def emphTwoUptoRow : OpenClaim := { program := "ytnijcglmfpiheaa", sum := "6544f2c4dd9c663c61255ab3d1a15ba88a0e48e7922fb24945a58c5bde801eca", func := "stet/stetlaw12.EmphTwo", spec := "emphTwo", unfollowed := true, recurses := true, plainKeys := false, apart := false, narrowed := true }
def EmphTwoUptoSaid : Prop := emphTwoUptoRow.holds Try.pinned (OpenSpec.upto emphTwoSpec)

end Rows
end Go.Proofs.Ytnijcglmfpiheaa
