/-
  DERIVED. GIVEN WITH THE SEED: THE CARDS: each row of YtbijhjleceeogaaDoorRows.lean that lists a variable, with what it lists TIED to the program's text (the seventh form; the later family's looks); each row that meets fmt, with fmt's text TOLD by the authors' own Lean function (tested against real Go, not proved from fmt's source: count such statements apart). THE CARD IS WHAT COUNTS. Prove the row's statement (the work); the ties are given (YtbijhjleceeogaaDoorTie.lean); close each card by the builder's one call (the guide's Derived/Test/ToyasCard.lean, 'card_holds'). Laid BY PROGRAM, IN A SANDBOX (cutbox-door.mjs). By AI agents, Wed Nov 11 2026. No macro, syntax, notation, axiom, sorry.
-/
import Derived.Test.YtbijhjleceeogaaDoorRows
import GoSem.ClaimSeven
namespace Go.Proofs.YtbijhjleceeogaaDoor
namespace Rows

/-- THE TIED CARD OF 'recensionlaw12.ShapeAny'. -/
def shapeAnyCard : Claim7 := { stood := { row := shapeAnyRow, standIns := [], harness := (true, "65f5a817dc8dc4f26b02496bb87611424e2efc448219ab6e1d9b72d8223703f7"), looks := false }, kinds := [], alts := [], laidByText := true, laidKinds := [.data, .pinned], laidTests := true, laidLooks := .later }
def ShapeAnyCardSaid : Prop := Claim7.holds Tryd.pinned (.plain (OpenSpec.ofChange shapeAnySpec)) shapeAnyCard

/-- THE TIED CARD OF 'recensionlaw12.ShapeOnce'. -/
def shapeOnceCard : Claim7 := { stood := { row := shapeOnceRow, standIns := [], harness := (true, "65f5a817dc8dc4f26b02496bb87611424e2efc448219ab6e1d9b72d8223703f7"), looks := false }, kinds := [], alts := [], laidByText := true, laidKinds := [.data, .pinned], laidTests := true, laidLooks := .later }
def ShapeOnceCardSaid : Prop := Claim7.holds Tryd.pinned (.plain (OpenSpec.ofChange shapeOnceSpec)) shapeOnceCard

/-- THE TIED CARD OF 'recensionlaw12.ShapeParens'. -/
def shapeParensCard : Claim7 := { stood := { row := shapeParensRow, standIns := [], harness := (true, "65f5a817dc8dc4f26b02496bb87611424e2efc448219ab6e1d9b72d8223703f7"), looks := false }, kinds := [], alts := [], laidByText := true, laidKinds := [.data, .pinned], laidTests := true, laidLooks := .later }
def ShapeParensCardSaid : Prop := Claim7.holds Tryd.pinned (.plain (OpenSpec.ofChange shapeParensSpec)) shapeParensCard

/-- THE SECOND FORM's CARD OF 'recensionlaw12.ShapeAny'. -/
def shapeAnyUptoCard : Claim7 := { stood := { row := shapeAnyUptoRow, standIns := [], harness := (true, "65f5a817dc8dc4f26b02496bb87611424e2efc448219ab6e1d9b72d8223703f7"), looks := false }, kinds := [], alts := [], laidByText := true, laidKinds := [.data, .pinned], laidTests := true, laidLooks := .later }
def ShapeAnyUptoCardSaid : Prop := Claim7.holds Tryd.pinned (.plain (OpenSpec.upto shapeAnySpec)) shapeAnyUptoCard

/-- THE SECOND FORM's CARD OF 'recensionlaw12.ShapeOnce'. -/
def shapeOnceUptoCard : Claim7 := { stood := { row := shapeOnceUptoRow, standIns := [], harness := (true, "65f5a817dc8dc4f26b02496bb87611424e2efc448219ab6e1d9b72d8223703f7"), looks := false }, kinds := [], alts := [], laidByText := true, laidKinds := [.data, .pinned], laidTests := true, laidLooks := .later }
def ShapeOnceUptoCardSaid : Prop := Claim7.holds Tryd.pinned (.plain (OpenSpec.upto shapeOnceSpec)) shapeOnceUptoCard

/-- THE SECOND FORM's CARD OF 'recensionlaw12.ShapeParens'. -/
def shapeParensUptoCard : Claim7 := { stood := { row := shapeParensUptoRow, standIns := [], harness := (true, "65f5a817dc8dc4f26b02496bb87611424e2efc448219ab6e1d9b72d8223703f7"), looks := false }, kinds := [], alts := [], laidByText := true, laidKinds := [.data, .pinned], laidTests := true, laidLooks := .later }
def ShapeParensUptoCardSaid : Prop := Claim7.holds Tryd.pinned (.plain (OpenSpec.upto shapeParensSpec)) shapeParensUptoCard
end Rows
end Go.Proofs.YtbijhjleceeogaaDoor
