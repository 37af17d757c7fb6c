/-
  DERIVED. GIVEN WITH THE SEED: THE CARDS: each row of YtinhgekebidigaaDoorRows.lean that lists a variable, with what it lists TIED to the program's text (the seventh form; the later family's looks); each row that meets fmt, with fmt's text TOLD by the authors' own Lean function (tested against real Go, not proved from fmt's source: count such statements apart). THE CARD IS WHAT COUNTS. Prove the row's statement (the work); the ties are given (YtinhgekebidigaaDoorTie.lean); close each card by the builder's one call (the guide's Derived/Test/ToyasCard.lean, 'card_holds'). Laid BY PROGRAM, IN A SANDBOX (cutbox-door.mjs). By AI agents, Wed Nov 11 2026. No macro, syntax, notation, axiom, sorry.
-/
import Derived.Test.YtinhgekebidigaaDoorRows
import GoSem.ClaimSeven
namespace Go.Proofs.YtinhgekebidigaaDoor
namespace Rows

/-- THE TIED CARD OF 'recensionlaw11.ParseRanks'. -/
def parseRanksCard : Claim7 := { stood := { row := parseRanksRow, standIns := [], harness := (true, "c1c07090dc5fe29b7f3c9357aea630ab2ea7fe18a3d528ef20e5c3b41fa96db0"), looks := false }, kinds := [], alts := [], laidByText := true, laidKinds := [.data, .pinned], laidTests := true, laidLooks := .later }
def ParseRanksCardSaid : Prop := Claim7.holds Tryd.pinned (.plain (OpenSpec.ofChange parseRanksSpec)) parseRanksCard

/-- THE TIED CARD OF 'recensionlaw11.ParseChain'. -/
def parseChainCard : Claim7 := { stood := { row := parseChainRow, standIns := [], harness := (true, "c1c07090dc5fe29b7f3c9357aea630ab2ea7fe18a3d528ef20e5c3b41fa96db0"), looks := false }, kinds := [], alts := [], laidByText := true, laidKinds := [.data, .pinned], laidTests := true, laidLooks := .later }
def ParseChainCardSaid : Prop := Claim7.holds Tryd.pinned (.plain (OpenSpec.ofChange parseChainSpec)) parseChainCard

/-- THE TIED CARD OF 'recensionlaw11.ParseTail'. -/
def parseTailCard : Claim7 := { stood := { row := parseTailRow, standIns := [], harness := (true, "c1c07090dc5fe29b7f3c9357aea630ab2ea7fe18a3d528ef20e5c3b41fa96db0"), looks := false }, kinds := [], alts := [], laidByText := true, laidKinds := [.data, .pinned], laidTests := true, laidLooks := .later }
def ParseTailCardSaid : Prop := Claim7.holds Tryd.pinned (.plain (OpenSpec.ofChange parseTailSpec)) parseTailCard

/-- THE TIED CARD OF 'recensionlaw11.ParseSemis'. -/
def parseSemisCard : Claim7 := { stood := { row := parseSemisRow, standIns := [], harness := (true, "c1c07090dc5fe29b7f3c9357aea630ab2ea7fe18a3d528ef20e5c3b41fa96db0"), looks := false }, kinds := [], alts := [], laidByText := true, laidKinds := [.data, .pinned], laidTests := true, laidLooks := .later }
def ParseSemisCardSaid : Prop := Claim7.holds Tryd.pinned (.plain (OpenSpec.ofChange parseSemisSpec)) parseSemisCard

/-- THE TIED CARD OF 'recensionlaw11.ParseElse'. -/
def parseElseCard : Claim7 := { stood := { row := parseElseRow, standIns := [], harness := (true, "c1c07090dc5fe29b7f3c9357aea630ab2ea7fe18a3d528ef20e5c3b41fa96db0"), looks := false }, kinds := [], alts := [], laidByText := true, laidKinds := [.data, .pinned], laidTests := true, laidLooks := .later }
def ParseElseCardSaid : Prop := Claim7.holds Tryd.pinned (.plain (OpenSpec.ofChange parseElseSpec)) parseElseCard

/-- THE SECOND FORM's CARD OF 'recensionlaw11.ParseRanks'. -/
def parseRanksUptoCard : Claim7 := { stood := { row := parseRanksUptoRow, standIns := [], harness := (true, "c1c07090dc5fe29b7f3c9357aea630ab2ea7fe18a3d528ef20e5c3b41fa96db0"), looks := false }, kinds := [], alts := [], laidByText := true, laidKinds := [.data, .pinned], laidTests := true, laidLooks := .later }
def ParseRanksUptoCardSaid : Prop := Claim7.holds Tryd.pinned (.plain (OpenSpec.upto parseRanksSpec)) parseRanksUptoCard

/-- THE SECOND FORM's CARD OF 'recensionlaw11.ParseChain'. -/
def parseChainUptoCard : Claim7 := { stood := { row := parseChainUptoRow, standIns := [], harness := (true, "c1c07090dc5fe29b7f3c9357aea630ab2ea7fe18a3d528ef20e5c3b41fa96db0"), looks := false }, kinds := [], alts := [], laidByText := true, laidKinds := [.data, .pinned], laidTests := true, laidLooks := .later }
def ParseChainUptoCardSaid : Prop := Claim7.holds Tryd.pinned (.plain (OpenSpec.upto parseChainSpec)) parseChainUptoCard

/-- THE SECOND FORM's CARD OF 'recensionlaw11.ParseTail'. -/
def parseTailUptoCard : Claim7 := { stood := { row := parseTailUptoRow, standIns := [], harness := (true, "c1c07090dc5fe29b7f3c9357aea630ab2ea7fe18a3d528ef20e5c3b41fa96db0"), looks := false }, kinds := [], alts := [], laidByText := true, laidKinds := [.data, .pinned], laidTests := true, laidLooks := .later }
def ParseTailUptoCardSaid : Prop := Claim7.holds Tryd.pinned (.plain (OpenSpec.upto parseTailSpec)) parseTailUptoCard

/-- THE SECOND FORM's CARD OF 'recensionlaw11.ParseSemis'. -/
def parseSemisUptoCard : Claim7 := { stood := { row := parseSemisUptoRow, standIns := [], harness := (true, "c1c07090dc5fe29b7f3c9357aea630ab2ea7fe18a3d528ef20e5c3b41fa96db0"), looks := false }, kinds := [], alts := [], laidByText := true, laidKinds := [.data, .pinned], laidTests := true, laidLooks := .later }
def ParseSemisUptoCardSaid : Prop := Claim7.holds Tryd.pinned (.plain (OpenSpec.upto parseSemisSpec)) parseSemisUptoCard

/-- THE SECOND FORM's CARD OF 'recensionlaw11.ParseElse'. -/
def parseElseUptoCard : Claim7 := { stood := { row := parseElseUptoRow, standIns := [], harness := (true, "c1c07090dc5fe29b7f3c9357aea630ab2ea7fe18a3d528ef20e5c3b41fa96db0"), looks := false }, kinds := [], alts := [], laidByText := true, laidKinds := [.data, .pinned], laidTests := true, laidLooks := .later }
def ParseElseUptoCardSaid : Prop := Claim7.holds Tryd.pinned (.plain (OpenSpec.upto parseElseSpec)) parseElseUptoCard
end Rows
end Go.Proofs.YtinhgekebidigaaDoor
