/-
  DERIVED. GIVEN WITH THE SEED: THE CARDS: each row of YtinhgekebidigaaGreatDoorRows.lean that lists a variable, with what it lists TIED to the program's text (the seventh form; the later family's looks); each row that meets fmt, with fmt's text TOLD by the authors' own Lean function (tested against real Go, not proved from fmt's source: count such statements apart). THE CARD IS WHAT COUNTS. Prove the row's statement (the work); the ties are given (YtinhgekebidigaaGreatDoorTie.lean); close each card by the builder's one call (the guide's Derived/Test/ToyasCard.lean, 'card_holds'). Laid BY PROGRAM, IN A SANDBOX (cutbox-door.mjs). By AI agents, Wed Nov 11 2026. No macro, syntax, notation, axiom, sorry.
-/
import Derived.Test.YtinhgekebidigaaGreatDoorRows
import GoSem.ClaimSeven
namespace Go.Proofs.YtinhgekebidigaaGreatDoor
namespace Rows

/-- THE TIED CARD OF 'recensionlaw11.ParseAll'. -/
def parseAllCard : Claim7 := { stood := { row := parseAllRow, standIns := [], harness := (true, "b6ca622f1bed57ce096cb2f7f015407bd9af7b6adbe4ce8b0e54d07060fce0ee"), looks := false }, kinds := [], alts := [], laidByText := true, laidKinds := [.data, .pinned], laidTests := true, laidLooks := .later }
def ParseAllCardSaid : Prop := Claim7.holds Tryz.pinned (.plain (OpenSpec.ofChange parseAllSpec)) parseAllCard

/-- THE TIED CARD OF 'recensionlaw11.ParseStmts'. -/
def parseStmtsCard : Claim7 := { stood := { row := parseStmtsRow, standIns := [], harness := (true, "b6ca622f1bed57ce096cb2f7f015407bd9af7b6adbe4ce8b0e54d07060fce0ee"), looks := false }, kinds := [], alts := [], laidByText := true, laidKinds := [.data, .pinned], laidTests := true, laidLooks := .later }
def ParseStmtsCardSaid : Prop := Claim7.holds Tryz.pinned (.plain (OpenSpec.ofChange parseStmtsSpec)) parseStmtsCard

/-- THE TIED CARD OF 'recensionlaw11.ParseExpr'. -/
def parseExprCard : Claim7 := { stood := { row := parseExprRow, standIns := [], harness := (true, "b6ca622f1bed57ce096cb2f7f015407bd9af7b6adbe4ce8b0e54d07060fce0ee"), looks := false }, kinds := [], alts := [], laidByText := true, laidKinds := [.data, .pinned], laidTests := true, laidLooks := .later }
def ParseExprCardSaid : Prop := Claim7.holds Tryz.pinned (.plain (OpenSpec.ofChange parseExprSpec)) parseExprCard

/-- THE TIED CARD OF 'recensionlaw11.ParseTokens'. -/
def parseTokensCard : Claim7 := { stood := { row := parseTokensRow, standIns := [], harness := (true, "b6ca622f1bed57ce096cb2f7f015407bd9af7b6adbe4ce8b0e54d07060fce0ee"), looks := false }, kinds := [], alts := [], laidByText := true, laidKinds := [.data, .pinned], laidTests := true, laidLooks := .later }
def ParseTokensCardSaid : Prop := Claim7.holds Tryz.pinned (.plain (OpenSpec.ofChange parseTokensSpec)) parseTokensCard

/-- THE TIED CARD OF 'recensionlaw11.ParseDeep'. -/
def parseDeepCard : Claim7 := { stood := { row := parseDeepRow, standIns := [], harness := (true, "b6ca622f1bed57ce096cb2f7f015407bd9af7b6adbe4ce8b0e54d07060fce0ee"), looks := false }, kinds := [], alts := [], laidByText := true, laidKinds := [.data, .pinned], laidTests := true, laidLooks := .later }
def ParseDeepCardSaid : Prop := Claim7.holds Tryz.pinned (.plain (OpenSpec.ofChange parseDeepSpec)) parseDeepCard

/-- THE SECOND FORM's CARD OF 'recensionlaw11.ParseAll'. -/
def parseAllUptoCard : Claim7 := { stood := { row := parseAllUptoRow, standIns := [], harness := (true, "b6ca622f1bed57ce096cb2f7f015407bd9af7b6adbe4ce8b0e54d07060fce0ee"), looks := false }, kinds := [], alts := [], laidByText := true, laidKinds := [.data, .pinned], laidTests := true, laidLooks := .later }
def ParseAllUptoCardSaid : Prop := Claim7.holds Tryz.pinned (.plain (OpenSpec.upto parseAllSpec)) parseAllUptoCard

/-- THE SECOND FORM's CARD OF 'recensionlaw11.ParseStmts'. -/
def parseStmtsUptoCard : Claim7 := { stood := { row := parseStmtsUptoRow, standIns := [], harness := (true, "b6ca622f1bed57ce096cb2f7f015407bd9af7b6adbe4ce8b0e54d07060fce0ee"), looks := false }, kinds := [], alts := [], laidByText := true, laidKinds := [.data, .pinned], laidTests := true, laidLooks := .later }
def ParseStmtsUptoCardSaid : Prop := Claim7.holds Tryz.pinned (.plain (OpenSpec.upto parseStmtsSpec)) parseStmtsUptoCard

/-- THE SECOND FORM's CARD OF 'recensionlaw11.ParseExpr'. -/
def parseExprUptoCard : Claim7 := { stood := { row := parseExprUptoRow, standIns := [], harness := (true, "b6ca622f1bed57ce096cb2f7f015407bd9af7b6adbe4ce8b0e54d07060fce0ee"), looks := false }, kinds := [], alts := [], laidByText := true, laidKinds := [.data, .pinned], laidTests := true, laidLooks := .later }
def ParseExprUptoCardSaid : Prop := Claim7.holds Tryz.pinned (.plain (OpenSpec.upto parseExprSpec)) parseExprUptoCard

/-- THE SECOND FORM's CARD OF 'recensionlaw11.ParseTokens'. -/
def parseTokensUptoCard : Claim7 := { stood := { row := parseTokensUptoRow, standIns := [], harness := (true, "b6ca622f1bed57ce096cb2f7f015407bd9af7b6adbe4ce8b0e54d07060fce0ee"), looks := false }, kinds := [], alts := [], laidByText := true, laidKinds := [.data, .pinned], laidTests := true, laidLooks := .later }
def ParseTokensUptoCardSaid : Prop := Claim7.holds Tryz.pinned (.plain (OpenSpec.upto parseTokensSpec)) parseTokensUptoCard

/-- THE SECOND FORM's CARD OF 'recensionlaw11.ParseDeep'. -/
def parseDeepUptoCard : Claim7 := { stood := { row := parseDeepUptoRow, standIns := [], harness := (true, "b6ca622f1bed57ce096cb2f7f015407bd9af7b6adbe4ce8b0e54d07060fce0ee"), looks := false }, kinds := [], alts := [], laidByText := true, laidKinds := [.data, .pinned], laidTests := true, laidLooks := .later }
def ParseDeepUptoCardSaid : Prop := Claim7.holds Tryz.pinned (.plain (OpenSpec.upto parseDeepSpec)) parseDeepUptoCard
end Rows
end Go.Proofs.YtinhgekebidigaaGreatDoor
