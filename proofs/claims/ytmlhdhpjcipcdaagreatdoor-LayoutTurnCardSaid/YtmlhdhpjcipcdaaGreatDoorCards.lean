/-
  DERIVED. GIVEN WITH THE SEED: THE CARDS: each row of YtmlhdhpjcipcdaaGreatDoorRows.lean that lists a variable, with what it lists TIED to the program's text (the seventh form; the later family's looks); each row that meets fmt, with fmt's text TOLD by the authors' own Lean function (tested against real Go, not proved from fmt's source: count such statements apart). THE CARD IS WHAT COUNTS. Prove the row's statement (the work); the ties are given (YtmlhdhpjcipcdaaGreatDoorTie.lean); close each card by the builder's one call (the guide's Derived/Test/ToyasCard.lean, 'card_holds'). Laid BY PROGRAM, IN A SANDBOX (cutbox-door.mjs). By AI agents, Wed Nov 11 2026. No macro, syntax, notation, axiom, sorry.
-/
import Derived.Test.YtmlhdhpjcipcdaaGreatDoorRows
import GoSem.ClaimSeven
namespace Go.Proofs.YtmlhdhpjcipcdaaGreatDoor
namespace Rows

/-- THE TIED CARD OF 'recensionlaw12.ShapeAll'. -/
def shapeAllCard : Claim7 := { stood := { row := shapeAllRow, standIns := [], harness := (true, "f37745dba9c26587b558f43ca97f1ba7445e08bfb98746c70e9354807e23b08e"), looks := false }, kinds := [], alts := [], laidByText := true, laidKinds := [.data, .pinned], laidTests := true, laidLooks := .later }
def ShapeAllCardSaid : Prop := Claim7.holds Tryz.pinned (.plain (OpenSpec.ofChange shapeAllSpec)) shapeAllCard

/-- THE TIED CARD OF 'recensionlaw12.ShapeBlanks'. -/
def shapeBlanksCard : Claim7 := { stood := { row := shapeBlanksRow, standIns := [], harness := (true, "f37745dba9c26587b558f43ca97f1ba7445e08bfb98746c70e9354807e23b08e"), looks := false }, kinds := [], alts := [], laidByText := true, laidKinds := [.data, .pinned], laidTests := true, laidLooks := .later }
def ShapeBlanksCardSaid : Prop := Claim7.holds Tryz.pinned (.plain (OpenSpec.ofChange shapeBlanksSpec)) shapeBlanksCard

/-- THE TIED CARD OF 'recensionlaw17.FormatAll'. -/
def formatAllCard : Claim7 := { stood := { row := formatAllRow, standIns := [], harness := (true, "f37745dba9c26587b558f43ca97f1ba7445e08bfb98746c70e9354807e23b08e"), looks := false }, kinds := [], alts := [], laidByText := true, laidKinds := [.data, .pinned], laidTests := true, laidLooks := .later }
def FormatAllCardSaid : Prop := Claim7.holds Tryz.pinned (.plain (OpenSpec.ofChange formatAllSpec)) formatAllCard

/-- THE TIED CARD OF 'recensionlaw17.FormatBody'. -/
def formatBodyCard : Claim7 := { stood := { row := formatBodyRow, standIns := [], harness := (true, "f37745dba9c26587b558f43ca97f1ba7445e08bfb98746c70e9354807e23b08e"), looks := false }, kinds := [], alts := [], laidByText := true, laidKinds := [.data, .pinned], laidTests := true, laidLooks := .later }
def FormatBodyCardSaid : Prop := Claim7.holds Tryz.pinned (.plain (OpenSpec.ofChange formatBodySpec)) formatBodyCard

/-- THE TIED CARD OF 'recensionlaw17.FormatAgain'. -/
def formatAgainCard : Claim7 := { stood := { row := formatAgainRow, standIns := [], harness := (true, "f37745dba9c26587b558f43ca97f1ba7445e08bfb98746c70e9354807e23b08e"), looks := false }, kinds := [], alts := [], laidByText := true, laidKinds := [.data, .pinned], laidTests := true, laidLooks := .later }
def FormatAgainCardSaid : Prop := Claim7.holds Tryz.pinned (.plain (OpenSpec.ofChange formatAgainSpec)) formatAgainCard

/-- THE TIED CARD OF 'recensionlaw17.FormatKeeps'. -/
def formatKeepsCard : Claim7 := { stood := { row := formatKeepsRow, standIns := [], harness := (true, "f37745dba9c26587b558f43ca97f1ba7445e08bfb98746c70e9354807e23b08e"), looks := false }, kinds := [], alts := [], laidByText := true, laidKinds := [.data, .pinned], laidTests := true, laidLooks := .later }
def FormatKeepsCardSaid : Prop := Claim7.holds Tryz.pinned (.plain (OpenSpec.ofChange formatKeepsSpec)) formatKeepsCard

/-- THE TIED CARD OF 'recensionlaw17.FormatBlanks'. -/
def formatBlanksCard : Claim7 := { stood := { row := formatBlanksRow, standIns := [], harness := (true, "f37745dba9c26587b558f43ca97f1ba7445e08bfb98746c70e9354807e23b08e"), looks := false }, kinds := [], alts := [], laidByText := true, laidKinds := [.data, .pinned], laidTests := true, laidLooks := .later }
def FormatBlanksCardSaid : Prop := Claim7.holds Tryz.pinned (.plain (OpenSpec.ofChange formatBlanksSpec)) formatBlanksCard

/-- THE TIED CARD OF 'recensionlaw17.FormatDeep'. -/
def formatDeepCard : Claim7 := { stood := { row := formatDeepRow, standIns := [], harness := (true, "f37745dba9c26587b558f43ca97f1ba7445e08bfb98746c70e9354807e23b08e"), looks := false }, kinds := [], alts := [], laidByText := true, laidKinds := [.data, .pinned], laidTests := true, laidLooks := .later }
def FormatDeepCardSaid : Prop := Claim7.holds Tryz.pinned (.plain (OpenSpec.ofChange formatDeepSpec)) formatDeepCard

/-- THE TIED CARD OF 'recensionlaw17.FormatGaps'. -/
def formatGapsCard : Claim7 := { stood := { row := formatGapsRow, standIns := [], harness := (true, "f37745dba9c26587b558f43ca97f1ba7445e08bfb98746c70e9354807e23b08e"), looks := false }, kinds := [], alts := [], laidByText := true, laidKinds := [.data, .pinned], laidTests := true, laidLooks := .later }
def FormatGapsCardSaid : Prop := Claim7.holds Tryz.pinned (.plain (OpenSpec.ofChange formatGapsSpec)) formatGapsCard

/-- THE TIED CARD OF 'recensionlaw17.FormatNotes'. -/
def formatNotesCard : Claim7 := { stood := { row := formatNotesRow, standIns := [], harness := (true, "f37745dba9c26587b558f43ca97f1ba7445e08bfb98746c70e9354807e23b08e"), looks := false }, kinds := [], alts := [], laidByText := true, laidKinds := [.data, .pinned], laidTests := true, laidLooks := .later }
def FormatNotesCardSaid : Prop := Claim7.holds Tryz.pinned (.plain (OpenSpec.ofChange formatNotesSpec)) formatNotesCard

/-- THE TIED CARD OF 'recensionlaw17.FormatMinus'. -/
def formatMinusCard : Claim7 := { stood := { row := formatMinusRow, standIns := [], harness := (true, "f37745dba9c26587b558f43ca97f1ba7445e08bfb98746c70e9354807e23b08e"), looks := false }, kinds := [], alts := [], laidByText := true, laidKinds := [.data, .pinned], laidTests := true, laidLooks := .later }
def FormatMinusCardSaid : Prop := Claim7.holds Tryz.pinned (.plain (OpenSpec.ofChange formatMinusSpec)) formatMinusCard

/-- THE TIED CARD OF 'recensionlaw17.FormatGoes'. -/
def formatGoesCard : Claim7 := { stood := { row := formatGoesRow, standIns := [], harness := (true, "f37745dba9c26587b558f43ca97f1ba7445e08bfb98746c70e9354807e23b08e"), looks := false }, kinds := [], alts := [], laidByText := true, laidKinds := [.data, .pinned], laidTests := true, laidLooks := .later }
def FormatGoesCardSaid : Prop := Claim7.holds Tryz.pinned (.plain (OpenSpec.ofChange formatGoesSpec)) formatGoesCard

/-- THE TIED CARD OF 'recensionlaw28.JudgeFormat'. -/
def judgeFormatCard : Claim7 := { stood := { row := judgeFormatRow, standIns := [], harness := (true, "f37745dba9c26587b558f43ca97f1ba7445e08bfb98746c70e9354807e23b08e"), looks := false }, kinds := [], alts := [], laidByText := true, laidKinds := [.data, .pinned], laidTests := true, laidLooks := .later }
def JudgeFormatCardSaid : Prop := Claim7.holds Tryz.pinned (.plain (OpenSpec.ofChange judgeFormatSpec)) judgeFormatCard

/-- THE TIED CARD OF 'recensionlaw18.LayoutAll'. -/
def layoutAllCard : Claim7 := { stood := { row := layoutAllRow, standIns := [], harness := (true, "f37745dba9c26587b558f43ca97f1ba7445e08bfb98746c70e9354807e23b08e"), looks := false }, kinds := [], alts := [], laidByText := true, laidKinds := [.data, .pinned], laidTests := true, laidLooks := .later }
def LayoutAllCardSaid : Prop := Claim7.holds Tryz.pinned (.plain (OpenSpec.ofChange layoutAllSpec)) layoutAllCard

/-- THE TIED CARD OF 'recensionlaw18.LayoutOf'. -/
def layoutOfCard : Claim7 := { stood := { row := layoutOfRow, standIns := [], harness := (true, "f37745dba9c26587b558f43ca97f1ba7445e08bfb98746c70e9354807e23b08e"), looks := false }, kinds := [], alts := [], laidByText := true, laidKinds := [.data, .pinned], laidTests := true, laidLooks := .later }
def LayoutOfCardSaid : Prop := Claim7.holds Tryz.pinned (.plain (OpenSpec.ofChange layoutOfSpec)) layoutOfCard

/-- THE TIED CARD OF 'recensionlaw18.LayoutTurn'. -/
def layoutTurnCard : Claim7 := { stood := { row := layoutTurnRow, standIns := [], harness := (true, "f37745dba9c26587b558f43ca97f1ba7445e08bfb98746c70e9354807e23b08e"), looks := false }, kinds := [], alts := [], laidByText := true, laidKinds := [.data, .pinned], laidTests := true, laidLooks := .later }
def LayoutTurnCardSaid : Prop := Claim7.holds Tryz.pinned (.plain (OpenSpec.ofChange layoutTurnSpec)) layoutTurnCard

/-- THE TIED CARD OF 'recensionlaw18.LayoutTabs'. -/
def layoutTabsCard : Claim7 := { stood := { row := layoutTabsRow, standIns := [], harness := (true, "f37745dba9c26587b558f43ca97f1ba7445e08bfb98746c70e9354807e23b08e"), looks := false }, kinds := [], alts := [], laidByText := true, laidKinds := [.data, .pinned], laidTests := true, laidLooks := .later }
def LayoutTabsCardSaid : Prop := Claim7.holds Tryz.pinned (.plain (OpenSpec.ofChange layoutTabsSpec)) layoutTabsCard

/-- THE TIED CARD OF 'recensionlaw18.LayoutEmpty'. -/
def layoutEmptyCard : Claim7 := { stood := { row := layoutEmptyRow, standIns := [], harness := (true, "f37745dba9c26587b558f43ca97f1ba7445e08bfb98746c70e9354807e23b08e"), looks := false }, kinds := [], alts := [], laidByText := true, laidKinds := [.data, .pinned], laidTests := true, laidLooks := .later }
def LayoutEmptyCardSaid : Prop := Claim7.holds Tryz.pinned (.plain (OpenSpec.ofChange layoutEmptySpec)) layoutEmptyCard

/-- THE SECOND FORM's CARD OF 'recensionlaw12.ShapeAll'. -/
def shapeAllUptoCard : Claim7 := { stood := { row := shapeAllUptoRow, standIns := [], harness := (true, "f37745dba9c26587b558f43ca97f1ba7445e08bfb98746c70e9354807e23b08e"), looks := false }, kinds := [], alts := [], laidByText := true, laidKinds := [.data, .pinned], laidTests := true, laidLooks := .later }
def ShapeAllUptoCardSaid : Prop := Claim7.holds Tryz.pinned (.plain (OpenSpec.upto shapeAllSpec)) shapeAllUptoCard

/-- THE SECOND FORM's CARD OF 'recensionlaw12.ShapeBlanks'. -/
def shapeBlanksUptoCard : Claim7 := { stood := { row := shapeBlanksUptoRow, standIns := [], harness := (true, "f37745dba9c26587b558f43ca97f1ba7445e08bfb98746c70e9354807e23b08e"), looks := false }, kinds := [], alts := [], laidByText := true, laidKinds := [.data, .pinned], laidTests := true, laidLooks := .later }
def ShapeBlanksUptoCardSaid : Prop := Claim7.holds Tryz.pinned (.plain (OpenSpec.upto shapeBlanksSpec)) shapeBlanksUptoCard

/-- THE SECOND FORM's CARD OF 'recensionlaw17.FormatAll'. -/
def formatAllUptoCard : Claim7 := { stood := { row := formatAllUptoRow, standIns := [], harness := (true, "f37745dba9c26587b558f43ca97f1ba7445e08bfb98746c70e9354807e23b08e"), looks := false }, kinds := [], alts := [], laidByText := true, laidKinds := [.data, .pinned], laidTests := true, laidLooks := .later }
def FormatAllUptoCardSaid : Prop := Claim7.holds Tryz.pinned (.plain (OpenSpec.upto formatAllSpec)) formatAllUptoCard

/-- THE SECOND FORM's CARD OF 'recensionlaw17.FormatBody'. -/
def formatBodyUptoCard : Claim7 := { stood := { row := formatBodyUptoRow, standIns := [], harness := (true, "f37745dba9c26587b558f43ca97f1ba7445e08bfb98746c70e9354807e23b08e"), looks := false }, kinds := [], alts := [], laidByText := true, laidKinds := [.data, .pinned], laidTests := true, laidLooks := .later }
def FormatBodyUptoCardSaid : Prop := Claim7.holds Tryz.pinned (.plain (OpenSpec.upto formatBodySpec)) formatBodyUptoCard

/-- THE SECOND FORM's CARD OF 'recensionlaw17.FormatAgain'. -/
def formatAgainUptoCard : Claim7 := { stood := { row := formatAgainUptoRow, standIns := [], harness := (true, "f37745dba9c26587b558f43ca97f1ba7445e08bfb98746c70e9354807e23b08e"), looks := false }, kinds := [], alts := [], laidByText := true, laidKinds := [.data, .pinned], laidTests := true, laidLooks := .later }
def FormatAgainUptoCardSaid : Prop := Claim7.holds Tryz.pinned (.plain (OpenSpec.upto formatAgainSpec)) formatAgainUptoCard

/-- THE SECOND FORM's CARD OF 'recensionlaw17.FormatKeeps'. -/
def formatKeepsUptoCard : Claim7 := { stood := { row := formatKeepsUptoRow, standIns := [], harness := (true, "f37745dba9c26587b558f43ca97f1ba7445e08bfb98746c70e9354807e23b08e"), looks := false }, kinds := [], alts := [], laidByText := true, laidKinds := [.data, .pinned], laidTests := true, laidLooks := .later }
def FormatKeepsUptoCardSaid : Prop := Claim7.holds Tryz.pinned (.plain (OpenSpec.upto formatKeepsSpec)) formatKeepsUptoCard

/-- THE SECOND FORM's CARD OF 'recensionlaw17.FormatBlanks'. -/
def formatBlanksUptoCard : Claim7 := { stood := { row := formatBlanksUptoRow, standIns := [], harness := (true, "f37745dba9c26587b558f43ca97f1ba7445e08bfb98746c70e9354807e23b08e"), looks := false }, kinds := [], alts := [], laidByText := true, laidKinds := [.data, .pinned], laidTests := true, laidLooks := .later }
def FormatBlanksUptoCardSaid : Prop := Claim7.holds Tryz.pinned (.plain (OpenSpec.upto formatBlanksSpec)) formatBlanksUptoCard

/-- THE SECOND FORM's CARD OF 'recensionlaw17.FormatDeep'. -/
def formatDeepUptoCard : Claim7 := { stood := { row := formatDeepUptoRow, standIns := [], harness := (true, "f37745dba9c26587b558f43ca97f1ba7445e08bfb98746c70e9354807e23b08e"), looks := false }, kinds := [], alts := [], laidByText := true, laidKinds := [.data, .pinned], laidTests := true, laidLooks := .later }
def FormatDeepUptoCardSaid : Prop := Claim7.holds Tryz.pinned (.plain (OpenSpec.upto formatDeepSpec)) formatDeepUptoCard

/-- THE SECOND FORM's CARD OF 'recensionlaw17.FormatGaps'. -/
def formatGapsUptoCard : Claim7 := { stood := { row := formatGapsUptoRow, standIns := [], harness := (true, "f37745dba9c26587b558f43ca97f1ba7445e08bfb98746c70e9354807e23b08e"), looks := false }, kinds := [], alts := [], laidByText := true, laidKinds := [.data, .pinned], laidTests := true, laidLooks := .later }
def FormatGapsUptoCardSaid : Prop := Claim7.holds Tryz.pinned (.plain (OpenSpec.upto formatGapsSpec)) formatGapsUptoCard

/-- THE SECOND FORM's CARD OF 'recensionlaw17.FormatNotes'. -/
def formatNotesUptoCard : Claim7 := { stood := { row := formatNotesUptoRow, standIns := [], harness := (true, "f37745dba9c26587b558f43ca97f1ba7445e08bfb98746c70e9354807e23b08e"), looks := false }, kinds := [], alts := [], laidByText := true, laidKinds := [.data, .pinned], laidTests := true, laidLooks := .later }
def FormatNotesUptoCardSaid : Prop := Claim7.holds Tryz.pinned (.plain (OpenSpec.upto formatNotesSpec)) formatNotesUptoCard

/-- THE SECOND FORM's CARD OF 'recensionlaw17.FormatMinus'. -/
def formatMinusUptoCard : Claim7 := { stood := { row := formatMinusUptoRow, standIns := [], harness := (true, "f37745dba9c26587b558f43ca97f1ba7445e08bfb98746c70e9354807e23b08e"), looks := false }, kinds := [], alts := [], laidByText := true, laidKinds := [.data, .pinned], laidTests := true, laidLooks := .later }
def FormatMinusUptoCardSaid : Prop := Claim7.holds Tryz.pinned (.plain (OpenSpec.upto formatMinusSpec)) formatMinusUptoCard

/-- THE SECOND FORM's CARD OF 'recensionlaw17.FormatGoes'. -/
def formatGoesUptoCard : Claim7 := { stood := { row := formatGoesUptoRow, standIns := [], harness := (true, "f37745dba9c26587b558f43ca97f1ba7445e08bfb98746c70e9354807e23b08e"), looks := false }, kinds := [], alts := [], laidByText := true, laidKinds := [.data, .pinned], laidTests := true, laidLooks := .later }
def FormatGoesUptoCardSaid : Prop := Claim7.holds Tryz.pinned (.plain (OpenSpec.upto formatGoesSpec)) formatGoesUptoCard

/-- THE SECOND FORM's CARD OF 'recensionlaw28.JudgeFormat'. -/
def judgeFormatUptoCard : Claim7 := { stood := { row := judgeFormatUptoRow, standIns := [], harness := (true, "f37745dba9c26587b558f43ca97f1ba7445e08bfb98746c70e9354807e23b08e"), looks := false }, kinds := [], alts := [], laidByText := true, laidKinds := [.data, .pinned], laidTests := true, laidLooks := .later }
def JudgeFormatUptoCardSaid : Prop := Claim7.holds Tryz.pinned (.plain (OpenSpec.upto judgeFormatSpec)) judgeFormatUptoCard

/-- THE SECOND FORM's CARD OF 'recensionlaw18.LayoutAll'. -/
def layoutAllUptoCard : Claim7 := { stood := { row := layoutAllUptoRow, standIns := [], harness := (true, "f37745dba9c26587b558f43ca97f1ba7445e08bfb98746c70e9354807e23b08e"), looks := false }, kinds := [], alts := [], laidByText := true, laidKinds := [.data, .pinned], laidTests := true, laidLooks := .later }
def LayoutAllUptoCardSaid : Prop := Claim7.holds Tryz.pinned (.plain (OpenSpec.upto layoutAllSpec)) layoutAllUptoCard

/-- THE SECOND FORM's CARD OF 'recensionlaw18.LayoutOf'. -/
def layoutOfUptoCard : Claim7 := { stood := { row := layoutOfUptoRow, standIns := [], harness := (true, "f37745dba9c26587b558f43ca97f1ba7445e08bfb98746c70e9354807e23b08e"), looks := false }, kinds := [], alts := [], laidByText := true, laidKinds := [.data, .pinned], laidTests := true, laidLooks := .later }
def LayoutOfUptoCardSaid : Prop := Claim7.holds Tryz.pinned (.plain (OpenSpec.upto layoutOfSpec)) layoutOfUptoCard

/-- THE SECOND FORM's CARD OF 'recensionlaw18.LayoutTurn'. -/
def layoutTurnUptoCard : Claim7 := { stood := { row := layoutTurnUptoRow, standIns := [], harness := (true, "f37745dba9c26587b558f43ca97f1ba7445e08bfb98746c70e9354807e23b08e"), looks := false }, kinds := [], alts := [], laidByText := true, laidKinds := [.data, .pinned], laidTests := true, laidLooks := .later }
def LayoutTurnUptoCardSaid : Prop := Claim7.holds Tryz.pinned (.plain (OpenSpec.upto layoutTurnSpec)) layoutTurnUptoCard

/-- THE SECOND FORM's CARD OF 'recensionlaw18.LayoutTabs'. -/
def layoutTabsUptoCard : Claim7 := { stood := { row := layoutTabsUptoRow, standIns := [], harness := (true, "f37745dba9c26587b558f43ca97f1ba7445e08bfb98746c70e9354807e23b08e"), looks := false }, kinds := [], alts := [], laidByText := true, laidKinds := [.data, .pinned], laidTests := true, laidLooks := .later }
def LayoutTabsUptoCardSaid : Prop := Claim7.holds Tryz.pinned (.plain (OpenSpec.upto layoutTabsSpec)) layoutTabsUptoCard

/-- THE SECOND FORM's CARD OF 'recensionlaw18.LayoutEmpty'. -/
def layoutEmptyUptoCard : Claim7 := { stood := { row := layoutEmptyUptoRow, standIns := [], harness := (true, "f37745dba9c26587b558f43ca97f1ba7445e08bfb98746c70e9354807e23b08e"), looks := false }, kinds := [], alts := [], laidByText := true, laidKinds := [.data, .pinned], laidTests := true, laidLooks := .later }
def LayoutEmptyUptoCardSaid : Prop := Claim7.holds Tryz.pinned (.plain (OpenSpec.upto layoutEmptySpec)) layoutEmptyUptoCard
end Rows
end Go.Proofs.YtmlhdhpjcipcdaaGreatDoor
