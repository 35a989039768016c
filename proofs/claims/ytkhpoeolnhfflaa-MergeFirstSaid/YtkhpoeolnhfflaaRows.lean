/-
  No cell of these rows narrows 'for every input' (looked for: loops, veiled, ifaces, maps, wideKeys, modest, calm, conditions, laid).
  DERIVED. THE GIVEN ROWS OF THIS SEAT. 10 by the template 'for every input the law returns true; each argument reads behind the call as it read before'; 0 by the template 'total and deterministic' (their statements: YtkhpoeolnhfflaaTotals.lean).
  GIVEN WITH THE SEED: the statements are not yours to turn. If you find one false, say at which input.
  Laid BY PROGRAM, IN A SANDBOX (cutbox-rows.mjs): the forced cells as the released guide's own fill.sh prints them over the translation b80779be517b666e… (all of the seat's roots in one cut). By AI agents, Wed Nov 11 2026. No macro, syntax, notation, axiom, sorry.
-/
import Derived.Test.YtkhpoeolnhfflaaChecked
import GoSem.Claim
import GoSem.ClaimJoined
import GoSem.ClaimMapViews
import Derived.JoinedTies
import Derived.KernelRfl
namespace Go.Proofs.Ytkhpoeolnhfflaa
/- THE CELL 'sum', in the pinned program and in every row, IS THE sha256 OF THE DUMP (.gsa) THAT YtkhpoeolnhfflaaProg.lean LOADS. Nothing in Lean hashes anything: it is a label: what it is worth is what the hold of that sum in a sandbox is worth. -/
noncomputable def Try.pinned : Pinned := { name := "ytkhpoeolnhfflaa", sum := "b80779be517b666e3cc41c1ef4f93a4809b49a56d8615e487c72a8f303828b64", checked := Try.checked }
namespace Rows
def none {H : Type} : Left H := { results := [], args := [] }

/-- 'stetlaw24.MergeChooses': WHATEVER THE INPUT: true; the input reads as it did. -/
def mergeChoosesSpec : ChangeSpec := { name := "mergeChooses", fn := fun _ => fun
  | [d] => { results := [.lit (.bool true)], args := [d] }
  | _ => none }
def mergeChoosesRow : OpenClaim := { program := "ytkhpoeolnhfflaa", sum := "b80779be517b666e3cc41c1ef4f93a4809b49a56d8615e487c72a8f303828b64", func := "stet/stetlaw24.MergeChooses", spec := "mergeChooses", unfollowed := true, recurses := true, apart := false }
def MergeChoosesSaid : Prop := mergeChoosesRow.holds Try.pinned (OpenSpec.ofChange mergeChoosesSpec)

/-- ITS FALSE NEIGHBOUR: 'it returns false'. Refute it at one input. -/
def mergeChoosesWrong : ChangeSpec := { name := "mergeChooses", fn := fun _ => fun
  | [d] => { results := [.lit (.bool false)], args := [d] }
  | _ => none }
def MergeChoosesWrongFalsely : Prop := mergeChoosesRow.holds Try.pinned (OpenSpec.ofChange mergeChoosesWrong)

/-- 'stetlaw24.MergeEdits': WHATEVER THE INPUT: true; the input reads as it did. -/
def mergeEditsSpec : ChangeSpec := { name := "mergeEdits", fn := fun _ => fun
  | [d1, d2, d3, d4] => { results := [.lit (.bool true)], args := [d1, d2, d3, d4] }
  | _ => none }
def mergeEditsRow : OpenClaim := { program := "ytkhpoeolnhfflaa", sum := "b80779be517b666e3cc41c1ef4f93a4809b49a56d8615e487c72a8f303828b64", func := "stet/stetlaw24.MergeEdits", spec := "mergeEdits", unfollowed := true, recurses := true, apart := false }
def MergeEditsSaid : Prop := mergeEditsRow.holds Try.pinned (OpenSpec.ofChange mergeEditsSpec)

/-- ITS FALSE NEIGHBOUR: 'it returns false'. Refute it at one input. -/
def mergeEditsWrong : ChangeSpec := { name := "mergeEdits", fn := fun _ => fun
  | [d1, d2, d3, d4] => { results := [.lit (.bool false)], args := [d1, d2, d3, d4] }
  | _ => none }
def MergeEditsWrongFalsely : Prop := mergeEditsRow.holds Try.pinned (OpenSpec.ofChange mergeEditsWrong)

/-- 'stetlaw24.MergeFirst': WHATEVER THE INPUT: true; the input reads as it did. -/
def mergeFirstSpec : ChangeSpec := { name := "mergeFirst", fn := fun _ => fun
  | [d1, d2] => { results := [.lit (.bool true)], args := [d1, d2] }
  | _ => none }
def mergeFirstRow : OpenClaim := { program := "ytkhpoeolnhfflaa", sum := "b80779be517b666e3cc41c1ef4f93a4809b49a56d8615e487c72a8f303828b64", func := "stet/stetlaw24.MergeFirst", spec := "mergeFirst", unfollowed := true, recurses := true, apart := false }
def MergeFirstSaid : Prop := mergeFirstRow.holds Try.pinned (OpenSpec.ofChange mergeFirstSpec)

/-- ITS FALSE NEIGHBOUR: 'it returns false'. Refute it at one input. -/
def mergeFirstWrong : ChangeSpec := { name := "mergeFirst", fn := fun _ => fun
  | [d1, d2] => { results := [.lit (.bool false)], args := [d1, d2] }
  | _ => none }
def MergeFirstWrongFalsely : Prop := mergeFirstRow.holds Try.pinned (OpenSpec.ofChange mergeFirstWrong)

/-- 'stetlaw24.MergeAll': WHATEVER THE INPUT: true; the input reads as it did. -/
def mergeAllSpec : ChangeSpec := { name := "mergeAll", fn := fun _ => fun
  | [d] => { results := [.lit (.bool true)], args := [d] }
  | _ => none }
def mergeAllRow : OpenClaim := { program := "ytkhpoeolnhfflaa", sum := "b80779be517b666e3cc41c1ef4f93a4809b49a56d8615e487c72a8f303828b64", func := "stet/stetlaw24.MergeAll", spec := "mergeAll", unfollowed := true, recurses := true, apart := false }
def MergeAllSaid : Prop := mergeAllRow.holds Try.pinned (OpenSpec.ofChange mergeAllSpec)

/-- ITS FALSE NEIGHBOUR: 'it returns false'. Refute it at one input. -/
def mergeAllWrong : ChangeSpec := { name := "mergeAll", fn := fun _ => fun
  | [d] => { results := [.lit (.bool false)], args := [d] }
  | _ => none }
def MergeAllWrongFalsely : Prop := mergeAllRow.holds Try.pinned (OpenSpec.ofChange mergeAllWrong)

/-- 'stetlaw24.MergeApart': WHATEVER THE INPUT: true; the input reads as it did. -/
def mergeApartSpec : ChangeSpec := { name := "mergeApart", fn := fun _ => fun
  | [d1, d2] => { results := [.lit (.bool true)], args := [d1, d2] }
  | _ => none }
def mergeApartRow : OpenClaim := { program := "ytkhpoeolnhfflaa", sum := "b80779be517b666e3cc41c1ef4f93a4809b49a56d8615e487c72a8f303828b64", func := "stet/stetlaw24.MergeApart", spec := "mergeApart", unfollowed := true, recurses := true, apart := false }
def MergeApartSaid : Prop := mergeApartRow.holds Try.pinned (OpenSpec.ofChange mergeApartSpec)

/-- ITS FALSE NEIGHBOUR: 'it returns false'. Refute it at one input. -/
def mergeApartWrong : ChangeSpec := { name := "mergeApart", fn := fun _ => fun
  | [d1, d2] => { results := [.lit (.bool false)], args := [d1, d2] }
  | _ => none }
def MergeApartWrongFalsely : Prop := mergeApartRow.holds Try.pinned (OpenSpec.ofChange mergeApartWrong)

/-- 'stetlaw02.EditApplies': WHATEVER THE INPUT: true; the input reads as it did. -/
def editAppliesSpec : ChangeSpec := { name := "editApplies", fn := fun _ => fun
  | [d1, d2] => { results := [.lit (.bool true)], args := [d1, d2] }
  | _ => none }
def editAppliesRow : OpenClaim := { program := "ytkhpoeolnhfflaa", sum := "b80779be517b666e3cc41c1ef4f93a4809b49a56d8615e487c72a8f303828b64", func := "stet/stetlaw02.EditApplies", spec := "editApplies", inPlace := ["internal/abi.NoEscape"], unfollowed := true, recurses := true, apart := false }
def EditAppliesSaid : Prop := editAppliesRow.holds Try.pinned (OpenSpec.ofChange editAppliesSpec)

/-- ITS FALSE NEIGHBOUR: 'it returns false'. Refute it at one input. -/
def editAppliesWrong : ChangeSpec := { name := "editApplies", fn := fun _ => fun
  | [d1, d2] => { results := [.lit (.bool false)], args := [d1, d2] }
  | _ => none }
def EditAppliesWrongFalsely : Prop := editAppliesRow.holds Try.pinned (OpenSpec.ofChange editAppliesWrong)

/-- 'stetlaw02.EditMoves': WHATEVER THE INPUT: true; the input reads as it did. -/
def editMovesSpec : ChangeSpec := { name := "editMoves", fn := fun _ => fun
  | [d1, d2, d3] => { results := [.lit (.bool true)], args := [d1, d2, d3] }
  | _ => none }
def editMovesRow : OpenClaim := { program := "ytkhpoeolnhfflaa", sum := "b80779be517b666e3cc41c1ef4f93a4809b49a56d8615e487c72a8f303828b64", func := "stet/stetlaw02.EditMoves", spec := "editMoves", inPlace := ["internal/abi.NoEscape"], unfollowed := true, recurses := true, apart := false }
def EditMovesSaid : Prop := editMovesRow.holds Try.pinned (OpenSpec.ofChange editMovesSpec)

/-- ITS FALSE NEIGHBOUR: 'it returns false'. Refute it at one input. -/
def editMovesWrong : ChangeSpec := { name := "editMoves", fn := fun _ => fun
  | [d1, d2, d3] => { results := [.lit (.bool false)], args := [d1, d2, d3] }
  | _ => none }
def EditMovesWrongFalsely : Prop := editMovesRow.holds Try.pinned (OpenSpec.ofChange editMovesWrong)

/-- 'stetlaw02.EditOutside': WHATEVER THE INPUT: true; the input reads as it did. -/
def editOutsideSpec : ChangeSpec := { name := "editOutside", fn := fun _ => fun
  | [d1, d2, d3] => { results := [.lit (.bool true)], args := [d1, d2, d3] }
  | _ => none }
def editOutsideRow : OpenClaim := { program := "ytkhpoeolnhfflaa", sum := "b80779be517b666e3cc41c1ef4f93a4809b49a56d8615e487c72a8f303828b64", func := "stet/stetlaw02.EditOutside", spec := "editOutside", inPlace := ["internal/abi.NoEscape"], unfollowed := true, recurses := true, apart := false }
def EditOutsideSaid : Prop := editOutsideRow.holds Try.pinned (OpenSpec.ofChange editOutsideSpec)

/-- ITS FALSE NEIGHBOUR: 'it returns false'. Refute it at one input. -/
def editOutsideWrong : ChangeSpec := { name := "editOutside", fn := fun _ => fun
  | [d1, d2, d3] => { results := [.lit (.bool false)], args := [d1, d2, d3] }
  | _ => none }
def EditOutsideWrongFalsely : Prop := editOutsideRow.holds Try.pinned (OpenSpec.ofChange editOutsideWrong)

/-- 'stetlaw02.EditOrder': WHATEVER THE INPUT: true; the input reads as it did. -/
def editOrderSpec : ChangeSpec := { name := "editOrder", fn := fun _ => fun
  | [d1, d2, d3] => { results := [.lit (.bool true)], args := [d1, d2, d3] }
  | _ => none }
def editOrderRow : OpenClaim := { program := "ytkhpoeolnhfflaa", sum := "b80779be517b666e3cc41c1ef4f93a4809b49a56d8615e487c72a8f303828b64", func := "stet/stetlaw02.EditOrder", spec := "editOrder", inPlace := ["internal/abi.NoEscape"], unfollowed := true, recurses := true, apart := false }
def EditOrderSaid : Prop := editOrderRow.holds Try.pinned (OpenSpec.ofChange editOrderSpec)

/-- ITS FALSE NEIGHBOUR: 'it returns false'. Refute it at one input. -/
def editOrderWrong : ChangeSpec := { name := "editOrder", fn := fun _ => fun
  | [d1, d2, d3] => { results := [.lit (.bool false)], args := [d1, d2, d3] }
  | _ => none }
def EditOrderWrongFalsely : Prop := editOrderRow.holds Try.pinned (OpenSpec.ofChange editOrderWrong)

/-- 'stetlaw02.EditParts': WHATEVER THE INPUT: true; the input reads as it did. -/
def editPartsSpec : ChangeSpec := { name := "editParts", fn := fun _ => fun
  | [d1, d2] => { results := [.lit (.bool true)], args := [d1, d2] }
  | _ => none }
def editPartsRow : OpenClaim := { program := "ytkhpoeolnhfflaa", sum := "b80779be517b666e3cc41c1ef4f93a4809b49a56d8615e487c72a8f303828b64", func := "stet/stetlaw02.EditParts", spec := "editParts", inPlace := ["internal/abi.NoEscape"], unfollowed := true, recurses := true, apart := false }
def EditPartsSaid : Prop := editPartsRow.holds Try.pinned (OpenSpec.ofChange editPartsSpec)

/-- ITS FALSE NEIGHBOUR: 'it returns false'. Refute it at one input. -/
def editPartsWrong : ChangeSpec := { name := "editParts", fn := fun _ => fun
  | [d1, d2] => { results := [.lit (.bool false)], args := [d1, d2] }
  | _ => none }
def EditPartsWrongFalsely : Prop := editPartsRow.holds Try.pinned (OpenSpec.ofChange editPartsWrong)

/- THE SECOND FORM. 'bulk': how many values and letters a reading holds, each counted each time it is reached (what is shared counts as often as it is met; a slice's spare places count too). A statement '..UptoSaid' is the law's where the arguments, and the package variables that the reading takes, are together of bulk at most 1048576: NARROWER than '..Said'. Prove '..Said' where nothing that the law and all that it calls make is longer than what came in: it says more and counts as full. Else prove '..UptoSaid'. A law counts once. -/
mutual
def uptoBulk {H : Type} : DataW H → Nat
  | .lit (.string bytes) => bytes.length + 1
  | .lit _ => 1
  | .nil => 1
  | .ptr d => uptoBulk d + 1
  | .slice elems spare => uptoBulkAll elems + uptoBulkAll spare + 1
  | .agg parts => uptoBulkAll parts + 1
  | .iface _ d => uptoBulk d + 1
  | .map entries => uptoBulkEntries entries + 1
  | .held _ => 1
def uptoBulkAll {H : Type} : List (DataW H) → Nat
  | [] => 0
  | d :: r => uptoBulk d + uptoBulkAll r
def uptoBulkEntries {H : Type} : List (Lit × DataW H) → Nat
  | [] => 0
  | x :: r => uptoBulkEntry x + uptoBulkEntries r
def uptoBulkEntry {H : Type} : Lit × DataW H → Nat
  | (.string bytes, d) => bytes.length + uptoBulk d + 1
  | (_, d) => uptoBulk d + 1
 end
def uptoSmall : (H : Type) → List (DataW H) → Bool := fun _ ds => decide (uptoBulkAll ds ≤ 1048576)
def OpenSpec.upto (s : _root_.Go.ChangeSpec) : _root_.Go.OpenSpec := { _root_.Go.OpenSpec.ofChange s with cond := some uptoSmall }

/-- 'stetlaw24.MergeChooses', WHERE WHAT IT READS IS OF BULK AT MOST 1048576: true; the input reads as it did. -/
def mergeChoosesUptoRow : OpenClaim := { program := "ytkhpoeolnhfflaa", sum := "b80779be517b666e3cc41c1ef4f93a4809b49a56d8615e487c72a8f303828b64", func := "stet/stetlaw24.MergeChooses", spec := "mergeChooses", unfollowed := true, recurses := true, apart := false, narrowed := true }
def MergeChoosesUptoSaid : Prop := mergeChoosesUptoRow.holds Try.pinned (OpenSpec.upto mergeChoosesSpec)

/-- 'stetlaw24.MergeEdits', WHERE WHAT IT READS IS OF BULK AT MOST 1048576: true; the input reads as it did. -/
def mergeEditsUptoRow : OpenClaim := { program := "ytkhpoeolnhfflaa", sum := "b80779be517b666e3cc41c1ef4f93a4809b49a56d8615e487c72a8f303828b64", func := "stet/stetlaw24.MergeEdits", spec := "mergeEdits", unfollowed := true, recurses := true, apart := false, narrowed := true }
def MergeEditsUptoSaid : Prop := mergeEditsUptoRow.holds Try.pinned (OpenSpec.upto mergeEditsSpec)

/-- 'stetlaw24.MergeFirst', WHERE WHAT IT READS IS OF BULK AT MOST 1048576: true; the input reads as it did. -/
def mergeFirstUptoRow : OpenClaim := { program := "ytkhpoeolnhfflaa", sum := "b80779be517b666e3cc41c1ef4f93a4809b49a56d8615e487c72a8f303828b64", func := "stet/stetlaw24.MergeFirst", spec := "mergeFirst", unfollowed := true, recurses := true, apart := false, narrowed := true }
def MergeFirstUptoSaid : Prop := mergeFirstUptoRow.holds Try.pinned (OpenSpec.upto mergeFirstSpec)

/-- 'stetlaw24.MergeAll', WHERE WHAT IT READS IS OF BULK AT MOST 1048576: true; the input reads as it did. -/
def mergeAllUptoRow : OpenClaim := { program := "ytkhpoeolnhfflaa", sum := "b80779be517b666e3cc41c1ef4f93a4809b49a56d8615e487c72a8f303828b64", func := "stet/stetlaw24.MergeAll", spec := "mergeAll", unfollowed := true, recurses := true, apart := false, narrowed := true }
def MergeAllUptoSaid : Prop := mergeAllUptoRow.holds Try.pinned (OpenSpec.upto mergeAllSpec)

/-- 'stetlaw24.MergeApart', WHERE WHAT IT READS IS OF BULK AT MOST 1048576: true; the input reads as it did. -/
def mergeApartUptoRow : OpenClaim := { program := "ytkhpoeolnhfflaa", sum := "b80779be517b666e3cc41c1ef4f93a4809b49a56d8615e487c72a8f303828b64", func := "stet/stetlaw24.MergeApart", spec := "mergeApart", unfollowed := true, recurses := true, apart := false, narrowed := true }
def MergeApartUptoSaid : Prop := mergeApartUptoRow.holds Try.pinned (OpenSpec.upto mergeApartSpec)

/-- 'stetlaw02.EditApplies', WHERE WHAT IT READS IS OF BULK AT MOST 1048576: true; the input reads as it did. -/
def editAppliesUptoRow : OpenClaim := { program := "ytkhpoeolnhfflaa", sum := "b80779be517b666e3cc41c1ef4f93a4809b49a56d8615e487c72a8f303828b64", func := "stet/stetlaw02.EditApplies", spec := "editApplies", inPlace := ["internal/abi.NoEscape"], unfollowed := true, recurses := true, apart := false, narrowed := true }
def EditAppliesUptoSaid : Prop := editAppliesUptoRow.holds Try.pinned (OpenSpec.upto editAppliesSpec)

/-- 'stetlaw02.EditMoves', WHERE WHAT IT READS IS OF BULK AT MOST 1048576: true; the input reads as it did. -/
def editMovesUptoRow : OpenClaim := { program := "ytkhpoeolnhfflaa", sum := "b80779be517b666e3cc41c1ef4f93a4809b49a56d8615e487c72a8f303828b64", func := "stet/stetlaw02.EditMoves", spec := "editMoves", inPlace := ["internal/abi.NoEscape"], unfollowed := true, recurses := true, apart := false, narrowed := true }
def EditMovesUptoSaid : Prop := editMovesUptoRow.holds Try.pinned (OpenSpec.upto editMovesSpec)

/-- 'stetlaw02.EditOutside', WHERE WHAT IT READS IS OF BULK AT MOST 1048576: true; the input reads as it did. -/
def editOutsideUptoRow : OpenClaim := { program := "ytkhpoeolnhfflaa", sum := "b80779be517b666e3cc41c1ef4f93a4809b49a56d8615e487c72a8f303828b64", func := "stet/stetlaw02.EditOutside", spec := "editOutside", inPlace := ["internal/abi.NoEscape"], unfollowed := true, recurses := true, apart := false, narrowed := true }
def EditOutsideUptoSaid : Prop := editOutsideUptoRow.holds Try.pinned (OpenSpec.upto editOutsideSpec)

/-- 'stetlaw02.EditOrder', WHERE WHAT IT READS IS OF BULK AT MOST 1048576: true; the input reads as it did. -/
def editOrderUptoRow : OpenClaim := { program := "ytkhpoeolnhfflaa", sum := "b80779be517b666e3cc41c1ef4f93a4809b49a56d8615e487c72a8f303828b64", func := "stet/stetlaw02.EditOrder", spec := "editOrder", inPlace := ["internal/abi.NoEscape"], unfollowed := true, recurses := true, apart := false, narrowed := true }
def EditOrderUptoSaid : Prop := editOrderUptoRow.holds Try.pinned (OpenSpec.upto editOrderSpec)

/-- 'stetlaw02.EditParts', WHERE WHAT IT READS IS OF BULK AT MOST 1048576: true; the input reads as it did. -/
def editPartsUptoRow : OpenClaim := { program := "ytkhpoeolnhfflaa", sum := "b80779be517b666e3cc41c1ef4f93a4809b49a56d8615e487c72a8f303828b64", func := "stet/stetlaw02.EditParts", spec := "editParts", inPlace := ["internal/abi.NoEscape"], unfollowed := true, recurses := true, apart := false, narrowed := true }
def EditPartsUptoSaid : Prop := editPartsUptoRow.holds Try.pinned (OpenSpec.upto editPartsSpec)

end Rows
end Go.Proofs.Ytkhpoeolnhfflaa
