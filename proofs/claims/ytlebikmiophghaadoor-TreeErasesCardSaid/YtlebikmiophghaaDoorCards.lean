/-
  DERIVED. GIVEN WITH THE SEED: THE CARDS: each row of YtlebikmiophghaaDoorRows.lean that lists a variable, with what it lists TIED to the program's text (the seventh form; the later family's looks); each row that meets fmt, with fmt's text TOLD by the authors' own Lean function (tested against real Go, not proved from fmt's source: count such statements apart). THE CARD IS WHAT COUNTS. Prove the row's statement (the work); the ties are given (YtlebikmiophghaaDoorTie.lean); close each card by the builder's one call (the guide's Derived/Test/ToyasCard.lean, 'card_holds'). Laid BY PROGRAM, IN A SANDBOX (cutbox-door.mjs). By AI agents, Wed Nov 11 2026. No macro, syntax, notation, axiom, sorry.
-/
import Derived.Test.YtlebikmiophghaaDoorRows
import GoSem.ClaimSeven
namespace Go.Proofs.YtlebikmiophghaaDoor
namespace Rows

/-- THE TIED CARD OF 'stetlaw09.TreeParts'. -/
def treePartsCard : Claim7 := { stood := { row := treePartsRow, standIns := [], harness := (true, "41c3451d0b52a3ce8d9dfa2b66667b2f5fa712198676f6c29a1d715e78bf759a"), looks := false }, kinds := [], alts := [], laidByText := true, laidKinds := [.data, .data, .data], laidTests := true, laidLooks := .later }
def TreePartsCardSaid : Prop := Claim7.holds Tryd.pinned (.plain (OpenSpec.ofChange treePartsSpec)) treePartsCard

/-- THE TIED CARD OF 'stetlaw09.TreeWrong'. -/
def treeWrongCard : Claim7 := { stood := { row := treeWrongRow, standIns := [], harness := (true, "41c3451d0b52a3ce8d9dfa2b66667b2f5fa712198676f6c29a1d715e78bf759a"), looks := false }, kinds := [], alts := [], laidByText := true, laidKinds := [.data, .data, .data], laidTests := true, laidLooks := .later }
def TreeWrongCardSaid : Prop := Claim7.holds Tryd.pinned (.plain (OpenSpec.ofChange treeWrongSpec)) treeWrongCard

/-- THE TIED CARD OF 'stetlaw04.ColumnDrops'. -/
def columnDropsCard : Claim7 := { stood := { row := columnDropsRow, standIns := [], harness := (true, "41c3451d0b52a3ce8d9dfa2b66667b2f5fa712198676f6c29a1d715e78bf759a"), looks := false }, kinds := [], alts := [], laidByText := true, laidKinds := [.data, .pinned], laidTests := true, laidLooks := .later }
def ColumnDropsCardSaid : Prop := Claim7.holds Tryd.pinned (.plain (OpenSpec.ofChange columnDropsSpec)) columnDropsCard

/-- THE TIED CARD OF 'stetlaw04.ColumnParts'. -/
def columnPartsCard : Claim7 := { stood := { row := columnPartsRow, standIns := [], harness := (true, "41c3451d0b52a3ce8d9dfa2b66667b2f5fa712198676f6c29a1d715e78bf759a"), looks := false }, kinds := [], alts := [], laidByText := true, laidKinds := [.data, .pinned], laidTests := true, laidLooks := .later }
def ColumnPartsCardSaid : Prop := Claim7.holds Tryd.pinned (.plain (OpenSpec.ofChange columnPartsSpec)) columnPartsCard

/-- THE TIED CARD OF 'stetlaw04.ColumnTabs'. -/
def columnTabsCard : Claim7 := { stood := { row := columnTabsRow, standIns := [], harness := (true, "41c3451d0b52a3ce8d9dfa2b66667b2f5fa712198676f6c29a1d715e78bf759a"), looks := false }, kinds := [], alts := [], laidByText := true, laidKinds := [.data, .pinned], laidTests := true, laidLooks := .later }
def ColumnTabsCardSaid : Prop := Claim7.holds Tryd.pinned (.plain (OpenSpec.ofChange columnTabsSpec)) columnTabsCard

/-- THE TIED CARD OF 'stetlaw18.RulesWords'. -/
def rulesWordsCard : Claim7 := { stood := { row := rulesWordsRow, standIns := [], harness := (true, "41c3451d0b52a3ce8d9dfa2b66667b2f5fa712198676f6c29a1d715e78bf759a"), looks := false }, kinds := [], alts := [], laidByText := true, laidKinds := [.data, .pinned], laidTests := true, laidLooks := .later }
def RulesWordsCardSaid : Prop := Claim7.holds Tryd.pinned (.plain (OpenSpec.ofChange rulesWordsSpec)) rulesWordsCard

/-- THE TIED CARD OF 'stetlaw18.RulesAll'. -/
def rulesAllCard : Claim7 := { stood := { row := rulesAllRow, standIns := [], harness := (true, "41c3451d0b52a3ce8d9dfa2b66667b2f5fa712198676f6c29a1d715e78bf759a"), looks := false }, kinds := [], alts := [], laidByText := true, laidKinds := [.data, .pinned], laidTests := true, laidLooks := .later }
def RulesAllCardSaid : Prop := Claim7.holds Tryd.pinned (.plain (OpenSpec.ofChange rulesAllSpec)) rulesAllCard

/-- THE TIED CARD OF 'stetlaw18.RulesLetters'. -/
def rulesLettersCard : Claim7 := { stood := { row := rulesLettersRow, standIns := [], harness := (true, "41c3451d0b52a3ce8d9dfa2b66667b2f5fa712198676f6c29a1d715e78bf759a"), looks := false }, kinds := [], alts := [], laidByText := true, laidKinds := [.data, .pinned], laidTests := true, laidLooks := .later }
def RulesLettersCardSaid : Prop := Claim7.holds Tryd.pinned (.plain (OpenSpec.ofChange rulesLettersSpec)) rulesLettersCard

/-- THE TIED CARD OF 'stetlaw09.TreeErases'. -/
def treeErasesCard : Claim7 := { stood := { row := treeErasesRow, standIns := [], harness := (true, "41c3451d0b52a3ce8d9dfa2b66667b2f5fa712198676f6c29a1d715e78bf759a"), looks := false }, kinds := [], alts := [], laidByText := true, laidKinds := [.data, .data, .data], laidTests := true, laidLooks := .later }
def TreeErasesCardSaid : Prop := Claim7.holds Tryd.pinned (.plain (OpenSpec.ofChange treeErasesSpec)) treeErasesCard

/-- THE SECOND FORM's CARD OF 'stetlaw09.TreeParts'. -/
def treePartsUptoCard : Claim7 := { stood := { row := treePartsUptoRow, standIns := [], harness := (true, "41c3451d0b52a3ce8d9dfa2b66667b2f5fa712198676f6c29a1d715e78bf759a"), looks := false }, kinds := [], alts := [], laidByText := true, laidKinds := [.data, .data, .data], laidTests := true, laidLooks := .later }
def TreePartsUptoCardSaid : Prop := Claim7.holds Tryd.pinned (.plain (OpenSpec.upto treePartsSpec)) treePartsUptoCard

/-- THE SECOND FORM's CARD OF 'stetlaw09.TreeWrong'. -/
def treeWrongUptoCard : Claim7 := { stood := { row := treeWrongUptoRow, standIns := [], harness := (true, "41c3451d0b52a3ce8d9dfa2b66667b2f5fa712198676f6c29a1d715e78bf759a"), looks := false }, kinds := [], alts := [], laidByText := true, laidKinds := [.data, .data, .data], laidTests := true, laidLooks := .later }
def TreeWrongUptoCardSaid : Prop := Claim7.holds Tryd.pinned (.plain (OpenSpec.upto treeWrongSpec)) treeWrongUptoCard

/-- THE SECOND FORM's CARD OF 'stetlaw04.ColumnDrops'. -/
def columnDropsUptoCard : Claim7 := { stood := { row := columnDropsUptoRow, standIns := [], harness := (true, "41c3451d0b52a3ce8d9dfa2b66667b2f5fa712198676f6c29a1d715e78bf759a"), looks := false }, kinds := [], alts := [], laidByText := true, laidKinds := [.data, .pinned], laidTests := true, laidLooks := .later }
def ColumnDropsUptoCardSaid : Prop := Claim7.holds Tryd.pinned (.plain (OpenSpec.upto columnDropsSpec)) columnDropsUptoCard

/-- THE SECOND FORM's CARD OF 'stetlaw04.ColumnParts'. -/
def columnPartsUptoCard : Claim7 := { stood := { row := columnPartsUptoRow, standIns := [], harness := (true, "41c3451d0b52a3ce8d9dfa2b66667b2f5fa712198676f6c29a1d715e78bf759a"), looks := false }, kinds := [], alts := [], laidByText := true, laidKinds := [.data, .pinned], laidTests := true, laidLooks := .later }
def ColumnPartsUptoCardSaid : Prop := Claim7.holds Tryd.pinned (.plain (OpenSpec.upto columnPartsSpec)) columnPartsUptoCard

/-- THE SECOND FORM's CARD OF 'stetlaw04.ColumnTabs'. -/
def columnTabsUptoCard : Claim7 := { stood := { row := columnTabsUptoRow, standIns := [], harness := (true, "41c3451d0b52a3ce8d9dfa2b66667b2f5fa712198676f6c29a1d715e78bf759a"), looks := false }, kinds := [], alts := [], laidByText := true, laidKinds := [.data, .pinned], laidTests := true, laidLooks := .later }
def ColumnTabsUptoCardSaid : Prop := Claim7.holds Tryd.pinned (.plain (OpenSpec.upto columnTabsSpec)) columnTabsUptoCard

/-- THE SECOND FORM's CARD OF 'stetlaw18.RulesWords'. -/
def rulesWordsUptoCard : Claim7 := { stood := { row := rulesWordsUptoRow, standIns := [], harness := (true, "41c3451d0b52a3ce8d9dfa2b66667b2f5fa712198676f6c29a1d715e78bf759a"), looks := false }, kinds := [], alts := [], laidByText := true, laidKinds := [.data, .pinned], laidTests := true, laidLooks := .later }
def RulesWordsUptoCardSaid : Prop := Claim7.holds Tryd.pinned (.plain (OpenSpec.upto rulesWordsSpec)) rulesWordsUptoCard

/-- THE SECOND FORM's CARD OF 'stetlaw18.RulesAll'. -/
def rulesAllUptoCard : Claim7 := { stood := { row := rulesAllUptoRow, standIns := [], harness := (true, "41c3451d0b52a3ce8d9dfa2b66667b2f5fa712198676f6c29a1d715e78bf759a"), looks := false }, kinds := [], alts := [], laidByText := true, laidKinds := [.data, .pinned], laidTests := true, laidLooks := .later }
def RulesAllUptoCardSaid : Prop := Claim7.holds Tryd.pinned (.plain (OpenSpec.upto rulesAllSpec)) rulesAllUptoCard

/-- THE SECOND FORM's CARD OF 'stetlaw18.RulesLetters'. -/
def rulesLettersUptoCard : Claim7 := { stood := { row := rulesLettersUptoRow, standIns := [], harness := (true, "41c3451d0b52a3ce8d9dfa2b66667b2f5fa712198676f6c29a1d715e78bf759a"), looks := false }, kinds := [], alts := [], laidByText := true, laidKinds := [.data, .pinned], laidTests := true, laidLooks := .later }
def RulesLettersUptoCardSaid : Prop := Claim7.holds Tryd.pinned (.plain (OpenSpec.upto rulesLettersSpec)) rulesLettersUptoCard

/-- THE SECOND FORM's CARD OF 'stetlaw09.TreeErases'. -/
def treeErasesUptoCard : Claim7 := { stood := { row := treeErasesUptoRow, standIns := [], harness := (true, "41c3451d0b52a3ce8d9dfa2b66667b2f5fa712198676f6c29a1d715e78bf759a"), looks := false }, kinds := [], alts := [], laidByText := true, laidKinds := [.data, .data, .data], laidTests := true, laidLooks := .later }
def TreeErasesUptoCardSaid : Prop := Claim7.holds Tryd.pinned (.plain (OpenSpec.upto treeErasesSpec)) treeErasesUptoCard
end Rows
end Go.Proofs.YtlebikmiophghaaDoor
