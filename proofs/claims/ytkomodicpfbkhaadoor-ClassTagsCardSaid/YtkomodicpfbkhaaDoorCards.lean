/-
  DERIVED. GIVEN WITH THE SEED: THE CARDS: each row of YtkomodicpfbkhaaDoorRows.lean that lists a variable, with what it lists TIED to the program's text (the seventh form; the later family's looks); each row that meets fmt, with fmt's text TOLD by the authors' own Lean function (tested against real Go, not proved from fmt's source: count such statements apart). THE CARD IS WHAT COUNTS. Prove the row's statement (the work); the ties are given (YtkomodicpfbkhaaDoorTie.lean); close each card by the builder's one call (the guide's Derived/Test/ToyasCard.lean, 'card_holds'). Laid BY PROGRAM, IN A SANDBOX (cutbox-door.mjs). By AI agents, Wed Nov 11 2026. No macro, syntax, notation, axiom, sorry.
-/
import Derived.Test.YtkomodicpfbkhaaDoorRows
import GoSem.ClaimSeven
namespace Go.Proofs.YtkomodicpfbkhaaDoor
namespace Rows

/-- THE TIED CARD OF 'stetlaw01.TextBefore'. -/
def textBeforeCard : Claim7 := { stood := { row := textBeforeRow, standIns := [], harness := (true, "6d08fffd70daf7482d93b89d057b8688a6506157ef808185efcec00af57b42d4"), looks := false }, kinds := [], alts := [], laidByText := true, laidKinds := [.data, .pinned], laidTests := true, laidLooks := .later }
def TextBeforeCardSaid : Prop := Claim7.holds Tryd.pinned (.plain (OpenSpec.ofChange textBeforeSpec)) textBeforeCard

/-- THE TIED CARD OF 'stetlaw03.ClassFolds'. -/
def classFoldsCard : Claim7 := { stood := { row := classFoldsRow, standIns := [], harness := (true, "6d08fffd70daf7482d93b89d057b8688a6506157ef808185efcec00af57b42d4"), looks := false }, kinds := [], alts := [], laidByText := true, laidKinds := [.data, .pinned], laidTests := true, laidLooks := .later }
def ClassFoldsCardSaid : Prop := Claim7.holds Tryd.pinned (.plain (OpenSpec.ofChange classFoldsSpec)) classFoldsCard

/-- THE TIED CARD OF 'stetlaw03.ClassParts'. -/
def classPartsCard : Claim7 := { stood := { row := classPartsRow, standIns := [], harness := (true, "6d08fffd70daf7482d93b89d057b8688a6506157ef808185efcec00af57b42d4"), looks := false }, kinds := [], alts := [], laidByText := true, laidKinds := [.data, .pinned], laidTests := true, laidLooks := .later }
def ClassPartsCardSaid : Prop := Claim7.holds Tryd.pinned (.plain (OpenSpec.ofChange classPartsSpec)) classPartsCard

/-- THE TIED CARD OF 'stetlaw03.ClassAgain'. -/
def classAgainCard : Claim7 := { stood := { row := classAgainRow, standIns := [], harness := (true, "6d08fffd70daf7482d93b89d057b8688a6506157ef808185efcec00af57b42d4"), looks := false }, kinds := [], alts := [], laidByText := true, laidKinds := [.data, .pinned], laidTests := true, laidLooks := .later }
def ClassAgainCardSaid : Prop := Claim7.holds Tryd.pinned (.plain (OpenSpec.ofChange classAgainSpec)) classAgainCard

/-- THE TIED CARD OF 'stetlaw01.TextPlaces'. -/
def textPlacesCard : Claim7 := { stood := { row := textPlacesRow, standIns := [], harness := (true, "6d08fffd70daf7482d93b89d057b8688a6506157ef808185efcec00af57b42d4"), looks := false }, kinds := [], alts := [], laidByText := true, laidKinds := [.data, .pinned], laidTests := true, laidLooks := .later }
def TextPlacesCardSaid : Prop := Claim7.holds Tryd.pinned (.plain (OpenSpec.ofChange textPlacesSpec)) textPlacesCard

/-- THE TIED CARD OF 'stetlaw01.TextOffsets'. -/
def textOffsetsCard : Claim7 := { stood := { row := textOffsetsRow, standIns := [], harness := (true, "6d08fffd70daf7482d93b89d057b8688a6506157ef808185efcec00af57b42d4"), looks := false }, kinds := [], alts := [], laidByText := true, laidKinds := [.data, .pinned], laidTests := true, laidLooks := .later }
def TextOffsetsCardSaid : Prop := Claim7.holds Tryd.pinned (.plain (OpenSpec.ofChange textOffsetsSpec)) textOffsetsCard

/-- THE TIED CARD OF 'stetlaw01.TextBack'. -/
def textBackCard : Claim7 := { stood := { row := textBackRow, standIns := [], harness := (true, "6d08fffd70daf7482d93b89d057b8688a6506157ef808185efcec00af57b42d4"), looks := false }, kinds := [], alts := [], laidByText := true, laidKinds := [.data, .pinned], laidTests := true, laidLooks := .later }
def TextBackCardSaid : Prop := Claim7.holds Tryd.pinned (.plain (OpenSpec.ofChange textBackSpec)) textBackCard

/-- THE TIED CARD OF 'stetlaw03.ClassTags'. -/
def classTagsCard : Claim7 := { stood := { row := classTagsRow, standIns := [], harness := (true, "6d08fffd70daf7482d93b89d057b8688a6506157ef808185efcec00af57b42d4"), looks := false }, kinds := [], alts := [], laidByText := true, laidKinds := [.data, .pinned], laidTests := true, laidLooks := .later }
def ClassTagsCardSaid : Prop := Claim7.holds Tryd.pinned (.plain (OpenSpec.ofChange classTagsSpec)) classTagsCard

/-- THE SECOND FORM's CARD OF 'stetlaw01.TextBefore'. -/
def textBeforeUptoCard : Claim7 := { stood := { row := textBeforeUptoRow, standIns := [], harness := (true, "6d08fffd70daf7482d93b89d057b8688a6506157ef808185efcec00af57b42d4"), looks := false }, kinds := [], alts := [], laidByText := true, laidKinds := [.data, .pinned], laidTests := true, laidLooks := .later }
def TextBeforeUptoCardSaid : Prop := Claim7.holds Tryd.pinned (.plain (OpenSpec.upto textBeforeSpec)) textBeforeUptoCard

/-- THE SECOND FORM's CARD OF 'stetlaw03.ClassFolds'. -/
def classFoldsUptoCard : Claim7 := { stood := { row := classFoldsUptoRow, standIns := [], harness := (true, "6d08fffd70daf7482d93b89d057b8688a6506157ef808185efcec00af57b42d4"), looks := false }, kinds := [], alts := [], laidByText := true, laidKinds := [.data, .pinned], laidTests := true, laidLooks := .later }
def ClassFoldsUptoCardSaid : Prop := Claim7.holds Tryd.pinned (.plain (OpenSpec.upto classFoldsSpec)) classFoldsUptoCard

/-- THE SECOND FORM's CARD OF 'stetlaw03.ClassParts'. -/
def classPartsUptoCard : Claim7 := { stood := { row := classPartsUptoRow, standIns := [], harness := (true, "6d08fffd70daf7482d93b89d057b8688a6506157ef808185efcec00af57b42d4"), looks := false }, kinds := [], alts := [], laidByText := true, laidKinds := [.data, .pinned], laidTests := true, laidLooks := .later }
def ClassPartsUptoCardSaid : Prop := Claim7.holds Tryd.pinned (.plain (OpenSpec.upto classPartsSpec)) classPartsUptoCard

/-- THE SECOND FORM's CARD OF 'stetlaw03.ClassAgain'. -/
def classAgainUptoCard : Claim7 := { stood := { row := classAgainUptoRow, standIns := [], harness := (true, "6d08fffd70daf7482d93b89d057b8688a6506157ef808185efcec00af57b42d4"), looks := false }, kinds := [], alts := [], laidByText := true, laidKinds := [.data, .pinned], laidTests := true, laidLooks := .later }
def ClassAgainUptoCardSaid : Prop := Claim7.holds Tryd.pinned (.plain (OpenSpec.upto classAgainSpec)) classAgainUptoCard

/-- THE SECOND FORM's CARD OF 'stetlaw01.TextPlaces'. -/
def textPlacesUptoCard : Claim7 := { stood := { row := textPlacesUptoRow, standIns := [], harness := (true, "6d08fffd70daf7482d93b89d057b8688a6506157ef808185efcec00af57b42d4"), looks := false }, kinds := [], alts := [], laidByText := true, laidKinds := [.data, .pinned], laidTests := true, laidLooks := .later }
def TextPlacesUptoCardSaid : Prop := Claim7.holds Tryd.pinned (.plain (OpenSpec.upto textPlacesSpec)) textPlacesUptoCard

/-- THE SECOND FORM's CARD OF 'stetlaw01.TextOffsets'. -/
def textOffsetsUptoCard : Claim7 := { stood := { row := textOffsetsUptoRow, standIns := [], harness := (true, "6d08fffd70daf7482d93b89d057b8688a6506157ef808185efcec00af57b42d4"), looks := false }, kinds := [], alts := [], laidByText := true, laidKinds := [.data, .pinned], laidTests := true, laidLooks := .later }
def TextOffsetsUptoCardSaid : Prop := Claim7.holds Tryd.pinned (.plain (OpenSpec.upto textOffsetsSpec)) textOffsetsUptoCard

/-- THE SECOND FORM's CARD OF 'stetlaw01.TextBack'. -/
def textBackUptoCard : Claim7 := { stood := { row := textBackUptoRow, standIns := [], harness := (true, "6d08fffd70daf7482d93b89d057b8688a6506157ef808185efcec00af57b42d4"), looks := false }, kinds := [], alts := [], laidByText := true, laidKinds := [.data, .pinned], laidTests := true, laidLooks := .later }
def TextBackUptoCardSaid : Prop := Claim7.holds Tryd.pinned (.plain (OpenSpec.upto textBackSpec)) textBackUptoCard

/-- THE SECOND FORM's CARD OF 'stetlaw03.ClassTags'. -/
def classTagsUptoCard : Claim7 := { stood := { row := classTagsUptoRow, standIns := [], harness := (true, "6d08fffd70daf7482d93b89d057b8688a6506157ef808185efcec00af57b42d4"), looks := false }, kinds := [], alts := [], laidByText := true, laidKinds := [.data, .pinned], laidTests := true, laidLooks := .later }
def ClassTagsUptoCardSaid : Prop := Claim7.holds Tryd.pinned (.plain (OpenSpec.upto classTagsSpec)) classTagsUptoCard
end Rows
end Go.Proofs.YtkomodicpfbkhaaDoor
