/-
  NARROWER THAN 'FOR EVERY INPUT', by the rows' own cells (each row's printed sentence says how): ShapeAll: laid · ShapeBlanks: laid · FormatAll: laid · FormatBody: laid · FormatAgain: laid · FormatKeeps: laid · FormatBlanks: laid · FormatDeep: laid · FormatGaps: laid · FormatNotes: laid · FormatMinus: laid · FormatGoes: laid · JudgeFormat: laid · LayoutAll: laid · LayoutOf: laid · LayoutTurn: laid · LayoutTabs: laid · LayoutEmpty: laid.
  DERIVED. THE GIVEN ROWS OF THIS SEAT. 18 by the template 'for every input the law returns true; each argument reads behind the call as it read before'; 0 by the template 'total and deterministic' (their statements: YtmlhdhpjcipcdaaGreatDoorTotals.lean).
  GIVEN WITH THE SEED: the statements are not yours to turn. If you find one false, say at which input.
  Laid BY PROGRAM, IN A SANDBOX (cutbox-rows.mjs): the forced cells as the released guide's own fill.sh prints them over the translation 196d56c9706bd94f… (all of the seat's roots in one cut). By AI agents, Wed Nov 11 2026. No macro, syntax, notation, axiom, sorry.
-/
import Derived.Test.YtmlhdhpjcipcdaaGreatDoorChecked
import GoSem.PinnedTables
import GoSem.Claim
import GoSem.ClaimJoined
import GoSem.ClaimMapViews
import Derived.JoinedTies
import Derived.KernelRfl
namespace Go.Proofs.YtmlhdhpjcipcdaaGreatDoor
/- THE CELL 'sum', in the pinned program and in every row, IS THE sha256 OF THE DUMP (.gsa) THAT YtmlhdhpjcipcdaaGreatDoorProg.lean LOADS. Nothing in Lean hashes anything: it is a label: what it is worth is what the hold of that sum in a sandbox is worth. -/
noncomputable def Tryz.pinned : Pinned := { name := "ytmlhdhpjcipcdaagreatdoor", sum := "196d56c9706bd94feafd17a6ef644e808ab8d07327ce74543a44f4017d1baa18", checked := Tryz.checked }
namespace Rows
def none {H : Type} : Left H := { results := [], args := [] }

/- WHAT THE LISTED PACKAGE-LEVEL VARIABLES READ AS WHEN THE CALL BEGINS. Each datum BY PROGRAM (the guide's laid-datum.mjs) off the statement by which the dump's own 'gosem.cut.vars' lays the variable. In a bare row this is a premise. The card (YtmlhdhpjcipcdaaGreatDoorCards.lean) ties it to the program's text. -/
def laid_unicode_utf8_acceptRanges {H : Type} : DataW H := .agg [.agg [.lit (.int .u8 128), .lit (.int .u8 191)], .agg [.lit (.int .u8 160), .lit (.int .u8 191)], .agg [.lit (.int .u8 128), .lit (.int .u8 159)], .agg [.lit (.int .u8 144), .lit (.int .u8 191)], .agg [.lit (.int .u8 128), .lit (.int .u8 143)], .agg [.lit (.int .u8 0), .lit (.int .u8 0)], .agg [.lit (.int .u8 0), .lit (.int .u8 0)], .agg [.lit (.int .u8 0), .lit (.int .u8 0)], .agg [.lit (.int .u8 0), .lit (.int .u8 0)], .agg [.lit (.int .u8 0), .lit (.int .u8 0)], .agg [.lit (.int .u8 0), .lit (.int .u8 0)], .agg [.lit (.int .u8 0), .lit (.int .u8 0)], .agg [.lit (.int .u8 0), .lit (.int .u8 0)], .agg [.lit (.int .u8 0), .lit (.int .u8 0)], .agg [.lit (.int .u8 0), .lit (.int .u8 0)], .agg [.lit (.int .u8 0), .lit (.int .u8 0)]]
/-- One of Go's own tables, pinned by name: the form's constant. -/
def laid_unicode_utf8_first : DataW Unit := Go.Pinned.utf8First

/-- 'recensionlaw12.ShapeAll': WHATEVER THE INPUT: true; the input reads as it did. -/
def shapeAllSpec : ChangeSpec := { name := "shapeAll", fn := fun _ => fun
  | [d1, d2] => { results := [.lit (.bool true)], args := [d1, d2] }
  | _ => none }
def shapeAllRow : OpenClaim := { program := "ytmlhdhpjcipcdaagreatdoor", sum := "196d56c9706bd94feafd17a6ef644e808ab8d07327ce74543a44f4017d1baa18", func := "recension/recensionlaw12.ShapeAll", spec := "shapeAll", inPlace := ["internal/bytealg.IndexByteString", "internal/bytealg.IndexString"], unfollowed := true, recurses := true, named := ["internal/bytealg.MaxLen", "unicode/utf8.first", "unicode/utf8.acceptRanges"], apart := false, laid := [("unicode/utf8.acceptRanges", laid_unicode_utf8_acceptRanges), ("unicode/utf8.first", laid_unicode_utf8_first)] }
def ShapeAllSaid : Prop := shapeAllRow.holds Tryz.pinned (OpenSpec.ofChange shapeAllSpec)

/-- ITS FALSE NEIGHBOUR: 'it returns false'. Refute it at one input. -/
def shapeAllWrong : ChangeSpec := { name := "shapeAll", fn := fun _ => fun
  | [d1, d2] => { results := [.lit (.bool false)], args := [d1, d2] }
  | _ => none }
def ShapeAllWrongFalsely : Prop := shapeAllRow.holds Tryz.pinned (OpenSpec.ofChange shapeAllWrong)

/-- 'recensionlaw12.ShapeBlanks': WHATEVER THE INPUT: true; the input reads as it did. -/
def shapeBlanksSpec : ChangeSpec := { name := "shapeBlanks", fn := fun _ => fun
  | [d] => { results := [.lit (.bool true)], args := [d] }
  | _ => none }
def shapeBlanksRow : OpenClaim := { program := "ytmlhdhpjcipcdaagreatdoor", sum := "196d56c9706bd94feafd17a6ef644e808ab8d07327ce74543a44f4017d1baa18", func := "recension/recensionlaw12.ShapeBlanks", spec := "shapeBlanks", inPlace := ["internal/bytealg.IndexByteString", "internal/bytealg.IndexString"], unfollowed := true, recurses := true, named := ["internal/bytealg.MaxLen", "unicode/utf8.first", "unicode/utf8.acceptRanges"], apart := false, laid := [("unicode/utf8.acceptRanges", laid_unicode_utf8_acceptRanges), ("unicode/utf8.first", laid_unicode_utf8_first)] }
def ShapeBlanksSaid : Prop := shapeBlanksRow.holds Tryz.pinned (OpenSpec.ofChange shapeBlanksSpec)

/-- ITS FALSE NEIGHBOUR: 'it returns false'. Refute it at one input. -/
def shapeBlanksWrong : ChangeSpec := { name := "shapeBlanks", fn := fun _ => fun
  | [d] => { results := [.lit (.bool false)], args := [d] }
  | _ => none }
def ShapeBlanksWrongFalsely : Prop := shapeBlanksRow.holds Tryz.pinned (OpenSpec.ofChange shapeBlanksWrong)

/-- 'recensionlaw17.FormatAll': WHATEVER THE INPUT: true; the input reads as it did. -/
def formatAllSpec : ChangeSpec := { name := "formatAll", fn := fun _ => fun
  | [d] => { results := [.lit (.bool true)], args := [d] }
  | _ => none }
def formatAllRow : OpenClaim := { program := "ytmlhdhpjcipcdaagreatdoor", sum := "196d56c9706bd94feafd17a6ef644e808ab8d07327ce74543a44f4017d1baa18", func := "recension/recensionlaw17.FormatAll", spec := "formatAll", inPlace := ["internal/bytealg.IndexByteString", "internal/bytealg.IndexString", "internal/bytealg.CountString", "internal/abi.NoEscape", "internal/bytealg.MakeNoZero"], unfollowed := true, recurses := true, named := ["internal/bytealg.MaxLen", "unicode/utf8.first", "unicode/utf8.acceptRanges"], apart := false, laid := [("unicode/utf8.acceptRanges", laid_unicode_utf8_acceptRanges), ("unicode/utf8.first", laid_unicode_utf8_first)] }
def FormatAllSaid : Prop := formatAllRow.holds Tryz.pinned (OpenSpec.ofChange formatAllSpec)

/-- ITS FALSE NEIGHBOUR: 'it returns false'. Refute it at one input. -/
def formatAllWrong : ChangeSpec := { name := "formatAll", fn := fun _ => fun
  | [d] => { results := [.lit (.bool false)], args := [d] }
  | _ => none }
def FormatAllWrongFalsely : Prop := formatAllRow.holds Tryz.pinned (OpenSpec.ofChange formatAllWrong)

/-- 'recensionlaw17.FormatBody': WHATEVER THE INPUT: true; the input reads as it did. -/
def formatBodySpec : ChangeSpec := { name := "formatBody", fn := fun _ => fun
  | [d] => { results := [.lit (.bool true)], args := [d] }
  | _ => none }
def formatBodyRow : OpenClaim := { program := "ytmlhdhpjcipcdaagreatdoor", sum := "196d56c9706bd94feafd17a6ef644e808ab8d07327ce74543a44f4017d1baa18", func := "recension/recensionlaw17.FormatBody", spec := "formatBody", inPlace := ["internal/bytealg.IndexByteString", "internal/bytealg.IndexString", "internal/bytealg.CountString", "internal/abi.NoEscape", "internal/bytealg.MakeNoZero"], unfollowed := true, recurses := true, named := ["internal/bytealg.MaxLen", "unicode/utf8.first", "unicode/utf8.acceptRanges"], apart := false, laid := [("unicode/utf8.acceptRanges", laid_unicode_utf8_acceptRanges), ("unicode/utf8.first", laid_unicode_utf8_first)] }
def FormatBodySaid : Prop := formatBodyRow.holds Tryz.pinned (OpenSpec.ofChange formatBodySpec)

/-- ITS FALSE NEIGHBOUR: 'it returns false'. Refute it at one input. -/
def formatBodyWrong : ChangeSpec := { name := "formatBody", fn := fun _ => fun
  | [d] => { results := [.lit (.bool false)], args := [d] }
  | _ => none }
def FormatBodyWrongFalsely : Prop := formatBodyRow.holds Tryz.pinned (OpenSpec.ofChange formatBodyWrong)

/-- 'recensionlaw17.FormatAgain': WHATEVER THE INPUT: true; the input reads as it did. -/
def formatAgainSpec : ChangeSpec := { name := "formatAgain", fn := fun _ => fun
  | [d] => { results := [.lit (.bool true)], args := [d] }
  | _ => none }
def formatAgainRow : OpenClaim := { program := "ytmlhdhpjcipcdaagreatdoor", sum := "196d56c9706bd94feafd17a6ef644e808ab8d07327ce74543a44f4017d1baa18", func := "recension/recensionlaw17.FormatAgain", spec := "formatAgain", inPlace := ["internal/bytealg.IndexByteString", "internal/bytealg.IndexString", "internal/bytealg.CountString", "internal/abi.NoEscape", "internal/bytealg.MakeNoZero"], unfollowed := true, recurses := true, named := ["internal/bytealg.MaxLen", "unicode/utf8.first", "unicode/utf8.acceptRanges"], apart := false, laid := [("unicode/utf8.acceptRanges", laid_unicode_utf8_acceptRanges), ("unicode/utf8.first", laid_unicode_utf8_first)] }
def FormatAgainSaid : Prop := formatAgainRow.holds Tryz.pinned (OpenSpec.ofChange formatAgainSpec)

/-- ITS FALSE NEIGHBOUR: 'it returns false'. Refute it at one input. -/
def formatAgainWrong : ChangeSpec := { name := "formatAgain", fn := fun _ => fun
  | [d] => { results := [.lit (.bool false)], args := [d] }
  | _ => none }
def FormatAgainWrongFalsely : Prop := formatAgainRow.holds Tryz.pinned (OpenSpec.ofChange formatAgainWrong)

/-- 'recensionlaw17.FormatKeeps': WHATEVER THE INPUT: true; the input reads as it did. -/
def formatKeepsSpec : ChangeSpec := { name := "formatKeeps", fn := fun _ => fun
  | [d] => { results := [.lit (.bool true)], args := [d] }
  | _ => none }
def formatKeepsRow : OpenClaim := { program := "ytmlhdhpjcipcdaagreatdoor", sum := "196d56c9706bd94feafd17a6ef644e808ab8d07327ce74543a44f4017d1baa18", func := "recension/recensionlaw17.FormatKeeps", spec := "formatKeeps", inPlace := ["internal/bytealg.IndexByteString", "internal/bytealg.IndexString", "internal/bytealg.CountString", "internal/abi.NoEscape", "internal/bytealg.MakeNoZero"], unfollowed := true, recurses := true, named := ["internal/bytealg.MaxLen", "unicode/utf8.first", "unicode/utf8.acceptRanges"], apart := false, laid := [("unicode/utf8.acceptRanges", laid_unicode_utf8_acceptRanges), ("unicode/utf8.first", laid_unicode_utf8_first)] }
def FormatKeepsSaid : Prop := formatKeepsRow.holds Tryz.pinned (OpenSpec.ofChange formatKeepsSpec)

/-- ITS FALSE NEIGHBOUR: 'it returns false'. Refute it at one input. -/
def formatKeepsWrong : ChangeSpec := { name := "formatKeeps", fn := fun _ => fun
  | [d] => { results := [.lit (.bool false)], args := [d] }
  | _ => none }
def FormatKeepsWrongFalsely : Prop := formatKeepsRow.holds Tryz.pinned (OpenSpec.ofChange formatKeepsWrong)

/-- 'recensionlaw17.FormatBlanks': WHATEVER THE INPUT: true; the input reads as it did. -/
def formatBlanksSpec : ChangeSpec := { name := "formatBlanks", fn := fun _ => fun
  | [d1, d2] => { results := [.lit (.bool true)], args := [d1, d2] }
  | _ => none }
def formatBlanksRow : OpenClaim := { program := "ytmlhdhpjcipcdaagreatdoor", sum := "196d56c9706bd94feafd17a6ef644e808ab8d07327ce74543a44f4017d1baa18", func := "recension/recensionlaw17.FormatBlanks", spec := "formatBlanks", inPlace := ["internal/bytealg.IndexByteString", "internal/bytealg.IndexString", "internal/bytealg.CountString", "internal/abi.NoEscape", "internal/bytealg.MakeNoZero"], unfollowed := true, recurses := true, named := ["internal/bytealg.MaxLen", "unicode/utf8.first", "unicode/utf8.acceptRanges"], apart := false, laid := [("unicode/utf8.acceptRanges", laid_unicode_utf8_acceptRanges), ("unicode/utf8.first", laid_unicode_utf8_first)] }
def FormatBlanksSaid : Prop := formatBlanksRow.holds Tryz.pinned (OpenSpec.ofChange formatBlanksSpec)

/-- ITS FALSE NEIGHBOUR: 'it returns false'. Refute it at one input. -/
def formatBlanksWrong : ChangeSpec := { name := "formatBlanks", fn := fun _ => fun
  | [d1, d2] => { results := [.lit (.bool false)], args := [d1, d2] }
  | _ => none }
def FormatBlanksWrongFalsely : Prop := formatBlanksRow.holds Tryz.pinned (OpenSpec.ofChange formatBlanksWrong)

/-- 'recensionlaw17.FormatDeep': WHATEVER THE INPUT: true; the input reads as it did. -/
def formatDeepSpec : ChangeSpec := { name := "formatDeep", fn := fun _ => fun
  | [d1, d2] => { results := [.lit (.bool true)], args := [d1, d2] }
  | _ => none }
def formatDeepRow : OpenClaim := { program := "ytmlhdhpjcipcdaagreatdoor", sum := "196d56c9706bd94feafd17a6ef644e808ab8d07327ce74543a44f4017d1baa18", func := "recension/recensionlaw17.FormatDeep", spec := "formatDeep", inPlace := ["internal/bytealg.IndexByteString", "internal/bytealg.IndexString", "internal/bytealg.CountString", "internal/abi.NoEscape", "internal/bytealg.MakeNoZero"], unfollowed := true, recurses := true, named := ["internal/bytealg.MaxLen", "unicode/utf8.first", "unicode/utf8.acceptRanges"], apart := false, laid := [("unicode/utf8.acceptRanges", laid_unicode_utf8_acceptRanges), ("unicode/utf8.first", laid_unicode_utf8_first)] }
def FormatDeepSaid : Prop := formatDeepRow.holds Tryz.pinned (OpenSpec.ofChange formatDeepSpec)

/-- ITS FALSE NEIGHBOUR: 'it returns false'. Refute it at one input. -/
def formatDeepWrong : ChangeSpec := { name := "formatDeep", fn := fun _ => fun
  | [d1, d2] => { results := [.lit (.bool false)], args := [d1, d2] }
  | _ => none }
def FormatDeepWrongFalsely : Prop := formatDeepRow.holds Tryz.pinned (OpenSpec.ofChange formatDeepWrong)

/-- 'recensionlaw17.FormatGaps': WHATEVER THE INPUT: true; the input reads as it did. -/
def formatGapsSpec : ChangeSpec := { name := "formatGaps", fn := fun _ => fun
  | [d1, d2, d3] => { results := [.lit (.bool true)], args := [d1, d2, d3] }
  | _ => none }
def formatGapsRow : OpenClaim := { program := "ytmlhdhpjcipcdaagreatdoor", sum := "196d56c9706bd94feafd17a6ef644e808ab8d07327ce74543a44f4017d1baa18", func := "recension/recensionlaw17.FormatGaps", spec := "formatGaps", inPlace := ["internal/bytealg.IndexByteString", "internal/bytealg.IndexString", "internal/bytealg.CountString", "internal/abi.NoEscape", "internal/bytealg.MakeNoZero"], unfollowed := true, recurses := true, named := ["internal/bytealg.MaxLen", "unicode/utf8.first", "unicode/utf8.acceptRanges"], apart := false, laid := [("unicode/utf8.acceptRanges", laid_unicode_utf8_acceptRanges), ("unicode/utf8.first", laid_unicode_utf8_first)] }
def FormatGapsSaid : Prop := formatGapsRow.holds Tryz.pinned (OpenSpec.ofChange formatGapsSpec)

/-- ITS FALSE NEIGHBOUR: 'it returns false'. Refute it at one input. -/
def formatGapsWrong : ChangeSpec := { name := "formatGaps", fn := fun _ => fun
  | [d1, d2, d3] => { results := [.lit (.bool false)], args := [d1, d2, d3] }
  | _ => none }
def FormatGapsWrongFalsely : Prop := formatGapsRow.holds Tryz.pinned (OpenSpec.ofChange formatGapsWrong)

/-- 'recensionlaw17.FormatNotes': WHATEVER THE INPUT: true; the input reads as it did. -/
def formatNotesSpec : ChangeSpec := { name := "formatNotes", fn := fun _ => fun
  | [d1, d2, d3] => { results := [.lit (.bool true)], args := [d1, d2, d3] }
  | _ => none }
def formatNotesRow : OpenClaim := { program := "ytmlhdhpjcipcdaagreatdoor", sum := "196d56c9706bd94feafd17a6ef644e808ab8d07327ce74543a44f4017d1baa18", func := "recension/recensionlaw17.FormatNotes", spec := "formatNotes", inPlace := ["internal/bytealg.IndexByteString", "internal/bytealg.IndexString", "internal/bytealg.CountString", "internal/abi.NoEscape", "internal/bytealg.MakeNoZero"], unfollowed := true, recurses := true, named := ["internal/bytealg.MaxLen", "unicode/utf8.first", "unicode/utf8.acceptRanges"], apart := false, laid := [("unicode/utf8.acceptRanges", laid_unicode_utf8_acceptRanges), ("unicode/utf8.first", laid_unicode_utf8_first)] }
def FormatNotesSaid : Prop := formatNotesRow.holds Tryz.pinned (OpenSpec.ofChange formatNotesSpec)

/-- ITS FALSE NEIGHBOUR: 'it returns false'. Refute it at one input. -/
def formatNotesWrong : ChangeSpec := { name := "formatNotes", fn := fun _ => fun
  | [d1, d2, d3] => { results := [.lit (.bool false)], args := [d1, d2, d3] }
  | _ => none }
def FormatNotesWrongFalsely : Prop := formatNotesRow.holds Tryz.pinned (OpenSpec.ofChange formatNotesWrong)

/-- 'recensionlaw17.FormatMinus': WHATEVER THE INPUT: true; the input reads as it did. -/
def formatMinusSpec : ChangeSpec := { name := "formatMinus", fn := fun _ => fun
  | [d1, d2] => { results := [.lit (.bool true)], args := [d1, d2] }
  | _ => none }
def formatMinusRow : OpenClaim := { program := "ytmlhdhpjcipcdaagreatdoor", sum := "196d56c9706bd94feafd17a6ef644e808ab8d07327ce74543a44f4017d1baa18", func := "recension/recensionlaw17.FormatMinus", spec := "formatMinus", inPlace := ["internal/bytealg.IndexByteString", "internal/bytealg.IndexString", "internal/bytealg.CountString", "internal/abi.NoEscape", "internal/bytealg.MakeNoZero"], unfollowed := true, recurses := true, named := ["internal/bytealg.MaxLen", "unicode/utf8.first", "unicode/utf8.acceptRanges"], apart := false, laid := [("unicode/utf8.acceptRanges", laid_unicode_utf8_acceptRanges), ("unicode/utf8.first", laid_unicode_utf8_first)] }
def FormatMinusSaid : Prop := formatMinusRow.holds Tryz.pinned (OpenSpec.ofChange formatMinusSpec)

/-- ITS FALSE NEIGHBOUR: 'it returns false'. Refute it at one input. -/
def formatMinusWrong : ChangeSpec := { name := "formatMinus", fn := fun _ => fun
  | [d1, d2] => { results := [.lit (.bool false)], args := [d1, d2] }
  | _ => none }
def FormatMinusWrongFalsely : Prop := formatMinusRow.holds Tryz.pinned (OpenSpec.ofChange formatMinusWrong)

/-- 'recensionlaw17.FormatGoes': WHATEVER THE INPUT: true; the input reads as it did. -/
def formatGoesSpec : ChangeSpec := { name := "formatGoes", fn := fun _ => fun
  | [d] => { results := [.lit (.bool true)], args := [d] }
  | _ => none }
def formatGoesRow : OpenClaim := { program := "ytmlhdhpjcipcdaagreatdoor", sum := "196d56c9706bd94feafd17a6ef644e808ab8d07327ce74543a44f4017d1baa18", func := "recension/recensionlaw17.FormatGoes", spec := "formatGoes", inPlace := ["internal/bytealg.IndexByteString", "internal/bytealg.IndexString", "internal/bytealg.CountString", "internal/abi.NoEscape", "internal/bytealg.MakeNoZero"], unfollowed := true, recurses := true, named := ["internal/bytealg.MaxLen", "unicode/utf8.first", "unicode/utf8.acceptRanges"], apart := false, laid := [("unicode/utf8.acceptRanges", laid_unicode_utf8_acceptRanges), ("unicode/utf8.first", laid_unicode_utf8_first)] }
def FormatGoesSaid : Prop := formatGoesRow.holds Tryz.pinned (OpenSpec.ofChange formatGoesSpec)

/-- ITS FALSE NEIGHBOUR: 'it returns false'. Refute it at one input. -/
def formatGoesWrong : ChangeSpec := { name := "formatGoes", fn := fun _ => fun
  | [d] => { results := [.lit (.bool false)], args := [d] }
  | _ => none }
def FormatGoesWrongFalsely : Prop := formatGoesRow.holds Tryz.pinned (OpenSpec.ofChange formatGoesWrong)

/-- 'recensionlaw28.JudgeFormat': WHATEVER THE INPUT: true; the input reads as it did. -/
def judgeFormatSpec : ChangeSpec := { name := "judgeFormat", fn := fun _ => fun
  | [d] => { results := [.lit (.bool true)], args := [d] }
  | _ => none }
def judgeFormatRow : OpenClaim := { program := "ytmlhdhpjcipcdaagreatdoor", sum := "196d56c9706bd94feafd17a6ef644e808ab8d07327ce74543a44f4017d1baa18", func := "recension/recensionlaw28.JudgeFormat", spec := "judgeFormat", inPlace := ["internal/bytealg.IndexByteString", "internal/bytealg.IndexString", "internal/bytealg.CountString", "internal/abi.NoEscape", "internal/bytealg.MakeNoZero"], unfollowed := true, recurses := true, named := ["internal/bytealg.MaxLen", "unicode/utf8.first", "unicode/utf8.acceptRanges"], apart := false, laid := [("unicode/utf8.acceptRanges", laid_unicode_utf8_acceptRanges), ("unicode/utf8.first", laid_unicode_utf8_first)] }
def JudgeFormatSaid : Prop := judgeFormatRow.holds Tryz.pinned (OpenSpec.ofChange judgeFormatSpec)

/-- ITS FALSE NEIGHBOUR: 'it returns false'. Refute it at one input. -/
def judgeFormatWrong : ChangeSpec := { name := "judgeFormat", fn := fun _ => fun
  | [d] => { results := [.lit (.bool false)], args := [d] }
  | _ => none }
def JudgeFormatWrongFalsely : Prop := judgeFormatRow.holds Tryz.pinned (OpenSpec.ofChange judgeFormatWrong)

/-- 'recensionlaw18.LayoutAll': WHATEVER THE INPUT: true; the input reads as it did. -/
def layoutAllSpec : ChangeSpec := { name := "layoutAll", fn := fun _ => fun
  | [d] => { results := [.lit (.bool true)], args := [d] }
  | _ => none }
def layoutAllRow : OpenClaim := { program := "ytmlhdhpjcipcdaagreatdoor", sum := "196d56c9706bd94feafd17a6ef644e808ab8d07327ce74543a44f4017d1baa18", func := "recension/recensionlaw18.LayoutAll", spec := "layoutAll", inPlace := ["internal/bytealg.IndexByteString", "internal/bytealg.IndexString", "internal/bytealg.CountString", "internal/abi.NoEscape", "internal/bytealg.MakeNoZero"], unfollowed := true, recurses := true, named := ["internal/bytealg.MaxLen", "unicode/utf8.first", "unicode/utf8.acceptRanges"], apart := false, laid := [("unicode/utf8.acceptRanges", laid_unicode_utf8_acceptRanges), ("unicode/utf8.first", laid_unicode_utf8_first)] }
def LayoutAllSaid : Prop := layoutAllRow.holds Tryz.pinned (OpenSpec.ofChange layoutAllSpec)

/-- ITS FALSE NEIGHBOUR: 'it returns false'. Refute it at one input. -/
def layoutAllWrong : ChangeSpec := { name := "layoutAll", fn := fun _ => fun
  | [d] => { results := [.lit (.bool false)], args := [d] }
  | _ => none }
def LayoutAllWrongFalsely : Prop := layoutAllRow.holds Tryz.pinned (OpenSpec.ofChange layoutAllWrong)

/-- 'recensionlaw18.LayoutOf': WHATEVER THE INPUT: true; the input reads as it did. -/
def layoutOfSpec : ChangeSpec := { name := "layoutOf", fn := fun _ => fun
  | [d] => { results := [.lit (.bool true)], args := [d] }
  | _ => none }
def layoutOfRow : OpenClaim := { program := "ytmlhdhpjcipcdaagreatdoor", sum := "196d56c9706bd94feafd17a6ef644e808ab8d07327ce74543a44f4017d1baa18", func := "recension/recensionlaw18.LayoutOf", spec := "layoutOf", inPlace := ["internal/bytealg.IndexByteString", "internal/bytealg.IndexString", "internal/bytealg.CountString", "internal/abi.NoEscape", "internal/bytealg.MakeNoZero"], unfollowed := true, recurses := true, named := ["internal/bytealg.MaxLen", "unicode/utf8.first", "unicode/utf8.acceptRanges"], apart := false, laid := [("unicode/utf8.acceptRanges", laid_unicode_utf8_acceptRanges), ("unicode/utf8.first", laid_unicode_utf8_first)] }
def LayoutOfSaid : Prop := layoutOfRow.holds Tryz.pinned (OpenSpec.ofChange layoutOfSpec)

/-- ITS FALSE NEIGHBOUR: 'it returns false'. Refute it at one input. -/
def layoutOfWrong : ChangeSpec := { name := "layoutOf", fn := fun _ => fun
  | [d] => { results := [.lit (.bool false)], args := [d] }
  | _ => none }
def LayoutOfWrongFalsely : Prop := layoutOfRow.holds Tryz.pinned (OpenSpec.ofChange layoutOfWrong)

/-- 'recensionlaw18.LayoutTurn': WHATEVER THE INPUT: true; the input reads as it did. -/
def layoutTurnSpec : ChangeSpec := { name := "layoutTurn", fn := fun _ => fun
  | [d1, d2, d3] => { results := [.lit (.bool true)], args := [d1, d2, d3] }
  | _ => none }
def layoutTurnRow : OpenClaim := { program := "ytmlhdhpjcipcdaagreatdoor", sum := "196d56c9706bd94feafd17a6ef644e808ab8d07327ce74543a44f4017d1baa18", func := "recension/recensionlaw18.LayoutTurn", spec := "layoutTurn", inPlace := ["internal/bytealg.IndexByteString", "internal/bytealg.IndexString", "internal/bytealg.CountString", "internal/abi.NoEscape", "internal/bytealg.MakeNoZero"], unfollowed := true, recurses := true, named := ["internal/bytealg.MaxLen", "unicode/utf8.first", "unicode/utf8.acceptRanges"], apart := false, laid := [("unicode/utf8.acceptRanges", laid_unicode_utf8_acceptRanges), ("unicode/utf8.first", laid_unicode_utf8_first)] }
def LayoutTurnSaid : Prop := layoutTurnRow.holds Tryz.pinned (OpenSpec.ofChange layoutTurnSpec)

/-- ITS FALSE NEIGHBOUR: 'it returns false'. Refute it at one input. -/
def layoutTurnWrong : ChangeSpec := { name := "layoutTurn", fn := fun _ => fun
  | [d1, d2, d3] => { results := [.lit (.bool false)], args := [d1, d2, d3] }
  | _ => none }
def LayoutTurnWrongFalsely : Prop := layoutTurnRow.holds Tryz.pinned (OpenSpec.ofChange layoutTurnWrong)

/-- 'recensionlaw18.LayoutTabs': WHATEVER THE INPUT: true; the input reads as it did. -/
def layoutTabsSpec : ChangeSpec := { name := "layoutTabs", fn := fun _ => fun
  | [d1, d2, d3] => { results := [.lit (.bool true)], args := [d1, d2, d3] }
  | _ => none }
def layoutTabsRow : OpenClaim := { program := "ytmlhdhpjcipcdaagreatdoor", sum := "196d56c9706bd94feafd17a6ef644e808ab8d07327ce74543a44f4017d1baa18", func := "recension/recensionlaw18.LayoutTabs", spec := "layoutTabs", inPlace := ["internal/bytealg.IndexByteString", "internal/bytealg.IndexString", "internal/bytealg.CountString", "internal/abi.NoEscape", "internal/bytealg.MakeNoZero"], unfollowed := true, recurses := true, named := ["internal/bytealg.MaxLen", "unicode/utf8.first", "unicode/utf8.acceptRanges"], apart := false, laid := [("unicode/utf8.acceptRanges", laid_unicode_utf8_acceptRanges), ("unicode/utf8.first", laid_unicode_utf8_first)] }
def LayoutTabsSaid : Prop := layoutTabsRow.holds Tryz.pinned (OpenSpec.ofChange layoutTabsSpec)

/-- ITS FALSE NEIGHBOUR: 'it returns false'. Refute it at one input. -/
def layoutTabsWrong : ChangeSpec := { name := "layoutTabs", fn := fun _ => fun
  | [d1, d2, d3] => { results := [.lit (.bool false)], args := [d1, d2, d3] }
  | _ => none }
def LayoutTabsWrongFalsely : Prop := layoutTabsRow.holds Tryz.pinned (OpenSpec.ofChange layoutTabsWrong)

/-- 'recensionlaw18.LayoutEmpty': WHATEVER THE INPUT: true; the input reads as it did. -/
def layoutEmptySpec : ChangeSpec := { name := "layoutEmpty", fn := fun _ => fun
  | [d1, d2, d3] => { results := [.lit (.bool true)], args := [d1, d2, d3] }
  | _ => none }
def layoutEmptyRow : OpenClaim := { program := "ytmlhdhpjcipcdaagreatdoor", sum := "196d56c9706bd94feafd17a6ef644e808ab8d07327ce74543a44f4017d1baa18", func := "recension/recensionlaw18.LayoutEmpty", spec := "layoutEmpty", inPlace := ["internal/bytealg.IndexByteString", "internal/bytealg.IndexString", "internal/bytealg.CountString", "internal/abi.NoEscape", "internal/bytealg.MakeNoZero"], unfollowed := true, recurses := true, named := ["internal/bytealg.MaxLen", "unicode/utf8.first", "unicode/utf8.acceptRanges"], apart := false, laid := [("unicode/utf8.acceptRanges", laid_unicode_utf8_acceptRanges), ("unicode/utf8.first", laid_unicode_utf8_first)] }
def LayoutEmptySaid : Prop := layoutEmptyRow.holds Tryz.pinned (OpenSpec.ofChange layoutEmptySpec)

/-- ITS FALSE NEIGHBOUR: 'it returns false'. Refute it at one input. -/
def layoutEmptyWrong : ChangeSpec := { name := "layoutEmpty", fn := fun _ => fun
  | [d1, d2, d3] => { results := [.lit (.bool false)], args := [d1, d2, d3] }
  | _ => none }
def LayoutEmptyWrongFalsely : Prop := layoutEmptyRow.holds Tryz.pinned (OpenSpec.ofChange layoutEmptyWrong)

/- THE SECOND FORM. 'bulk': how many values and letters a reading holds, each counted each time it is reached (what is shared counts as often as it is met; a slice's spare places count too). A statement '..UptoSaid' is the law's where the arguments, and the package variables that the reading takes, are together of bulk at most 1048576: NARROWER than '..Said'. Prove '..Said' where nothing that the law and all that it calls make is longer than what came in: it says more and counts as full. Else prove '..UptoSaid'. A law counts once. -/
mutual
def uptoBulk {H : Type} : DataW H → Nat
  | .lit (.string bytes) => bytes.length + 1
  | .lit _ => 1
  | .nil => 1
  | .ptr d => uptoBulk d + 1
  | .slice elems spare => uptoBulkAll elems + uptoBulkAll spare + 1
  | .agg parts => uptoBulkAll parts + 1
  | .iface _ d => uptoBulk d + 1
  | .map entries => uptoBulkEntries entries + 1
  | .held _ => 1
def uptoBulkAll {H : Type} : List (DataW H) → Nat
  | [] => 0
  | d :: r => uptoBulk d + uptoBulkAll r
def uptoBulkEntries {H : Type} : List (Lit × DataW H) → Nat
  | [] => 0
  | x :: r => uptoBulkEntry x + uptoBulkEntries r
def uptoBulkEntry {H : Type} : Lit × DataW H → Nat
  | (.string bytes, d) => bytes.length + uptoBulk d + 1
  | (_, d) => uptoBulk d + 1
 end
def uptoSmall : (H : Type) → List (DataW H) → Bool := fun _ ds => decide (uptoBulkAll ds ≤ 1048576)
def OpenSpec.upto (s : _root_.Go.ChangeSpec) : _root_.Go.OpenSpec := { _root_.Go.OpenSpec.ofChange s with cond := some uptoSmall }

/-- 'recensionlaw12.ShapeAll', WHERE WHAT IT READS IS OF BULK AT MOST 1048576: true; the input reads as it did. -/
def shapeAllUptoRow : OpenClaim := { program := "ytmlhdhpjcipcdaagreatdoor", sum := "196d56c9706bd94feafd17a6ef644e808ab8d07327ce74543a44f4017d1baa18", func := "recension/recensionlaw12.ShapeAll", spec := "shapeAll", inPlace := ["internal/bytealg.IndexByteString", "internal/bytealg.IndexString"], unfollowed := true, recurses := true, named := ["internal/bytealg.MaxLen", "unicode/utf8.first", "unicode/utf8.acceptRanges"], apart := false, laid := [("unicode/utf8.acceptRanges", laid_unicode_utf8_acceptRanges), ("unicode/utf8.first", laid_unicode_utf8_first)], narrowed := true }
def ShapeAllUptoSaid : Prop := shapeAllUptoRow.holds Tryz.pinned (OpenSpec.upto shapeAllSpec)

/-- 'recensionlaw12.ShapeBlanks', WHERE WHAT IT READS IS OF BULK AT MOST 1048576: true; the input reads as it did. -/
def shapeBlanksUptoRow : OpenClaim := { program := "ytmlhdhpjcipcdaagreatdoor", sum := "196d56c9706bd94feafd17a6ef644e808ab8d07327ce74543a44f4017d1baa18", func := "recension/recensionlaw12.ShapeBlanks", spec := "shapeBlanks", inPlace := ["internal/bytealg.IndexByteString", "internal/bytealg.IndexString"], unfollowed := true, recurses := true, named := ["internal/bytealg.MaxLen", "unicode/utf8.first", "unicode/utf8.acceptRanges"], apart := false, laid := [("unicode/utf8.acceptRanges", laid_unicode_utf8_acceptRanges), ("unicode/utf8.first", laid_unicode_utf8_first)], narrowed := true }
def ShapeBlanksUptoSaid : Prop := shapeBlanksUptoRow.holds Tryz.pinned (OpenSpec.upto shapeBlanksSpec)

/-- 'recensionlaw17.FormatAll', WHERE WHAT IT READS IS OF BULK AT MOST 1048576: true; the input reads as it did. -/
def formatAllUptoRow : OpenClaim := { program := "ytmlhdhpjcipcdaagreatdoor", sum := "196d56c9706bd94feafd17a6ef644e808ab8d07327ce74543a44f4017d1baa18", func := "recension/recensionlaw17.FormatAll", spec := "formatAll", inPlace := ["internal/bytealg.IndexByteString", "internal/bytealg.IndexString", "internal/bytealg.CountString", "internal/abi.NoEscape", "internal/bytealg.MakeNoZero"], unfollowed := true, recurses := true, named := ["internal/bytealg.MaxLen", "unicode/utf8.first", "unicode/utf8.acceptRanges"], apart := false, laid := [("unicode/utf8.acceptRanges", laid_unicode_utf8_acceptRanges), ("unicode/utf8.first", laid_unicode_utf8_first)], narrowed := true }
def FormatAllUptoSaid : Prop := formatAllUptoRow.holds Tryz.pinned (OpenSpec.upto formatAllSpec)

/-- 'recensionlaw17.FormatBody', WHERE WHAT IT READS IS OF BULK AT MOST 1048576: true; the input reads as it did. -/
def formatBodyUptoRow : OpenClaim := { program := "ytmlhdhpjcipcdaagreatdoor", sum := "196d56c9706bd94feafd17a6ef644e808ab8d07327ce74543a44f4017d1baa18", func := "recension/recensionlaw17.FormatBody", spec := "formatBody", inPlace := ["internal/bytealg.IndexByteString", "internal/bytealg.IndexString", "internal/bytealg.CountString", "internal/abi.NoEscape", "internal/bytealg.MakeNoZero"], unfollowed := true, recurses := true, named := ["internal/bytealg.MaxLen", "unicode/utf8.first", "unicode/utf8.acceptRanges"], apart := false, laid := [("unicode/utf8.acceptRanges", laid_unicode_utf8_acceptRanges), ("unicode/utf8.first", laid_unicode_utf8_first)], narrowed := true }
def FormatBodyUptoSaid : Prop := formatBodyUptoRow.holds Tryz.pinned (OpenSpec.upto formatBodySpec)

/-- 'recensionlaw17.FormatAgain', WHERE WHAT IT READS IS OF BULK AT MOST 1048576: true; the input reads as it did. -/
def formatAgainUptoRow : OpenClaim := { program := "ytmlhdhpjcipcdaagreatdoor", sum := "196d56c9706bd94feafd17a6ef644e808ab8d07327ce74543a44f4017d1baa18", func := "recension/recensionlaw17.FormatAgain", spec := "formatAgain", inPlace := ["internal/bytealg.IndexByteString", "internal/bytealg.IndexString", "internal/bytealg.CountString", "internal/abi.NoEscape", "internal/bytealg.MakeNoZero"], unfollowed := true, recurses := true, named := ["internal/bytealg.MaxLen", "unicode/utf8.first", "unicode/utf8.acceptRanges"], apart := false, laid := [("unicode/utf8.acceptRanges", laid_unicode_utf8_acceptRanges), ("unicode/utf8.first", laid_unicode_utf8_first)], narrowed := true }
def FormatAgainUptoSaid : Prop := formatAgainUptoRow.holds Tryz.pinned (OpenSpec.upto formatAgainSpec)

/-- 'recensionlaw17.FormatKeeps', WHERE WHAT IT READS IS OF BULK AT MOST 1048576: true; the input reads as it did. -/
def formatKeepsUptoRow : OpenClaim := { program := "ytmlhdhpjcipcdaagreatdoor", sum := "196d56c9706bd94feafd17a6ef644e808ab8d07327ce74543a44f4017d1baa18", func := "recension/recensionlaw17.FormatKeeps", spec := "formatKeeps", inPlace := ["internal/bytealg.IndexByteString", "internal/bytealg.IndexString", "internal/bytealg.CountString", "internal/abi.NoEscape", "internal/bytealg.MakeNoZero"], unfollowed := true, recurses := true, named := ["internal/bytealg.MaxLen", "unicode/utf8.first", "unicode/utf8.acceptRanges"], apart := false, laid := [("unicode/utf8.acceptRanges", laid_unicode_utf8_acceptRanges), ("unicode/utf8.first", laid_unicode_utf8_first)], narrowed := true }
def FormatKeepsUptoSaid : Prop := formatKeepsUptoRow.holds Tryz.pinned (OpenSpec.upto formatKeepsSpec)

/-- 'recensionlaw17.FormatBlanks', WHERE WHAT IT READS IS OF BULK AT MOST 1048576: true; the input reads as it did. -/
def formatBlanksUptoRow : OpenClaim := { program := "ytmlhdhpjcipcdaagreatdoor", sum := "196d56c9706bd94feafd17a6ef644e808ab8d07327ce74543a44f4017d1baa18", func := "recension/recensionlaw17.FormatBlanks", spec := "formatBlanks", inPlace := ["internal/bytealg.IndexByteString", "internal/bytealg.IndexString", "internal/bytealg.CountString", "internal/abi.NoEscape", "internal/bytealg.MakeNoZero"], unfollowed := true, recurses := true, named := ["internal/bytealg.MaxLen", "unicode/utf8.first", "unicode/utf8.acceptRanges"], apart := false, laid := [("unicode/utf8.acceptRanges", laid_unicode_utf8_acceptRanges), ("unicode/utf8.first", laid_unicode_utf8_first)], narrowed := true }
def FormatBlanksUptoSaid : Prop := formatBlanksUptoRow.holds Tryz.pinned (OpenSpec.upto formatBlanksSpec)

/-- 'recensionlaw17.FormatDeep', WHERE WHAT IT READS IS OF BULK AT MOST 1048576: true; the input reads as it did. -/
def formatDeepUptoRow : OpenClaim := { program := "ytmlhdhpjcipcdaagreatdoor", sum := "196d56c9706bd94feafd17a6ef644e808ab8d07327ce74543a44f4017d1baa18", func := "recension/recensionlaw17.FormatDeep", spec := "formatDeep", inPlace := ["internal/bytealg.IndexByteString", "internal/bytealg.IndexString", "internal/bytealg.CountString", "internal/abi.NoEscape", "internal/bytealg.MakeNoZero"], unfollowed := true, recurses := true, named := ["internal/bytealg.MaxLen", "unicode/utf8.first", "unicode/utf8.acceptRanges"], apart := false, laid := [("unicode/utf8.acceptRanges", laid_unicode_utf8_acceptRanges), ("unicode/utf8.first", laid_unicode_utf8_first)], narrowed := true }
def FormatDeepUptoSaid : Prop := formatDeepUptoRow.holds Tryz.pinned (OpenSpec.upto formatDeepSpec)

/-- 'recensionlaw17.FormatGaps', WHERE WHAT IT READS IS OF BULK AT MOST 1048576: true; the input reads as it did. -/
def formatGapsUptoRow : OpenClaim := { program := "ytmlhdhpjcipcdaagreatdoor", sum := "196d56c9706bd94feafd17a6ef644e808ab8d07327ce74543a44f4017d1baa18", func := "recension/recensionlaw17.FormatGaps", spec := "formatGaps", inPlace := ["internal/bytealg.IndexByteString", "internal/bytealg.IndexString", "internal/bytealg.CountString", "internal/abi.NoEscape", "internal/bytealg.MakeNoZero"], unfollowed := true, recurses := true, named := ["internal/bytealg.MaxLen", "unicode/utf8.first", "unicode/utf8.acceptRanges"], apart := false, laid := [("unicode/utf8.acceptRanges", laid_unicode_utf8_acceptRanges), ("unicode/utf8.first", laid_unicode_utf8_first)], narrowed := true }
def FormatGapsUptoSaid : Prop := formatGapsUptoRow.holds Tryz.pinned (OpenSpec.upto formatGapsSpec)

/-- 'recensionlaw17.FormatNotes', WHERE WHAT IT READS IS OF BULK AT MOST 1048576: true; the input reads as it did. -/
def formatNotesUptoRow : OpenClaim := { program := "ytmlhdhpjcipcdaagreatdoor", sum := "196d56c9706bd94feafd17a6ef644e808ab8d07327ce74543a44f4017d1baa18", func := "recension/recensionlaw17.FormatNotes", spec := "formatNotes", inPlace := ["internal/bytealg.IndexByteString", "internal/bytealg.IndexString", "internal/bytealg.CountString", "internal/abi.NoEscape", "internal/bytealg.MakeNoZero"], unfollowed := true, recurses := true, named := ["internal/bytealg.MaxLen", "unicode/utf8.first", "unicode/utf8.acceptRanges"], apart := false, laid := [("unicode/utf8.acceptRanges", laid_unicode_utf8_acceptRanges), ("unicode/utf8.first", laid_unicode_utf8_first)], narrowed := true }
def FormatNotesUptoSaid : Prop := formatNotesUptoRow.holds Tryz.pinned (OpenSpec.upto formatNotesSpec)

/-- 'recensionlaw17.FormatMinus', WHERE WHAT IT READS IS OF BULK AT MOST 1048576: true; the input reads as it did. -/
def formatMinusUptoRow : OpenClaim := { program := "ytmlhdhpjcipcdaagreatdoor", sum := "196d56c9706bd94feafd17a6ef644e808ab8d07327ce74543a44f4017d1baa18", func := "recension/recensionlaw17.FormatMinus", spec := "formatMinus", inPlace := ["internal/bytealg.IndexByteString", "internal/bytealg.IndexString", "internal/bytealg.CountString", "internal/abi.NoEscape", "internal/bytealg.MakeNoZero"], unfollowed := true, recurses := true, named := ["internal/bytealg.MaxLen", "unicode/utf8.first", "unicode/utf8.acceptRanges"], apart := false, laid := [("unicode/utf8.acceptRanges", laid_unicode_utf8_acceptRanges), ("unicode/utf8.first", laid_unicode_utf8_first)], narrowed := true }
def FormatMinusUptoSaid : Prop := formatMinusUptoRow.holds Tryz.pinned (OpenSpec.upto formatMinusSpec)

/-- 'recensionlaw17.FormatGoes', WHERE WHAT IT READS IS OF BULK AT MOST 1048576: true; the input reads as it did. -/
def formatGoesUptoRow : OpenClaim := { program := "ytmlhdhpjcipcdaagreatdoor", sum := "196d56c9706bd94feafd17a6ef644e808ab8d07327ce74543a44f4017d1baa18", func := "recension/recensionlaw17.FormatGoes", spec := "formatGoes", inPlace := ["internal/bytealg.IndexByteString", "internal/bytealg.IndexString", "internal/bytealg.CountString", "internal/abi.NoEscape", "internal/bytealg.MakeNoZero"], unfollowed := true, recurses := true, named := ["internal/bytealg.MaxLen", "unicode/utf8.first", "unicode/utf8.acceptRanges"], apart := false, laid := [("unicode/utf8.acceptRanges", laid_unicode_utf8_acceptRanges), ("unicode/utf8.first", laid_unicode_utf8_first)], narrowed := true }
def FormatGoesUptoSaid : Prop := formatGoesUptoRow.holds Tryz.pinned (OpenSpec.upto formatGoesSpec)

/-- 'recensionlaw28.JudgeFormat', WHERE WHAT IT READS IS OF BULK AT MOST 1048576: true; the input reads as it did. -/
def judgeFormatUptoRow : OpenClaim := { program := "ytmlhdhpjcipcdaagreatdoor", sum := "196d56c9706bd94feafd17a6ef644e808ab8d07327ce74543a44f4017d1baa18", func := "recension/recensionlaw28.JudgeFormat", spec := "judgeFormat", inPlace := ["internal/bytealg.IndexByteString", "internal/bytealg.IndexString", "internal/bytealg.CountString", "internal/abi.NoEscape", "internal/bytealg.MakeNoZero"], unfollowed := true, recurses := true, named := ["internal/bytealg.MaxLen", "unicode/utf8.first", "unicode/utf8.acceptRanges"], apart := false, laid := [("unicode/utf8.acceptRanges", laid_unicode_utf8_acceptRanges), ("unicode/utf8.first", laid_unicode_utf8_first)], narrowed := true }
def JudgeFormatUptoSaid : Prop := judgeFormatUptoRow.holds Tryz.pinned (OpenSpec.upto judgeFormatSpec)

/-- 'recensionlaw18.LayoutAll', WHERE WHAT IT READS IS OF BULK AT MOST 1048576: true; the input reads as it did. -/
def layoutAllUptoRow : OpenClaim := { program := "ytmlhdhpjcipcdaagreatdoor", sum := "196d56c9706bd94feafd17a6ef644e808ab8d07327ce74543a44f4017d1baa18", func := "recension/recensionlaw18.LayoutAll", spec := "layoutAll", inPlace := ["internal/bytealg.IndexByteString", "internal/bytealg.IndexString", "internal/bytealg.CountString", "internal/abi.NoEscape", "internal/bytealg.MakeNoZero"], unfollowed := true, recurses := true, named := ["internal/bytealg.MaxLen", "unicode/utf8.first", "unicode/utf8.acceptRanges"], apart := false, laid := [("unicode/utf8.acceptRanges", laid_unicode_utf8_acceptRanges), ("unicode/utf8.first", laid_unicode_utf8_first)], narrowed := true }
def LayoutAllUptoSaid : Prop := layoutAllUptoRow.holds Tryz.pinned (OpenSpec.upto layoutAllSpec)

/-- 'recensionlaw18.LayoutOf', WHERE WHAT IT READS IS OF BULK AT MOST 1048576: true; the input reads as it did. -/
def layoutOfUptoRow : OpenClaim := { program := "ytmlhdhpjcipcdaagreatdoor", sum := "196d56c9706bd94feafd17a6ef644e808ab8d07327ce74543a44f4017d1baa18", func := "recension/recensionlaw18.LayoutOf", spec := "layoutOf", inPlace := ["internal/bytealg.IndexByteString", "internal/bytealg.IndexString", "internal/bytealg.CountString", "internal/abi.NoEscape", "internal/bytealg.MakeNoZero"], unfollowed := true, recurses := true, named := ["internal/bytealg.MaxLen", "unicode/utf8.first", "unicode/utf8.acceptRanges"], apart := false, laid := [("unicode/utf8.acceptRanges", laid_unicode_utf8_acceptRanges), ("unicode/utf8.first", laid_unicode_utf8_first)], narrowed := true }
def LayoutOfUptoSaid : Prop := layoutOfUptoRow.holds Tryz.pinned (OpenSpec.upto layoutOfSpec)

/-- 'recensionlaw18.LayoutTurn', WHERE WHAT IT READS IS OF BULK AT MOST 1048576: true; the input reads as it did. -/
def layoutTurnUptoRow : OpenClaim := { program := "ytmlhdhpjcipcdaagreatdoor", sum := "196d56c9706bd94feafd17a6ef644e808ab8d07327ce74543a44f4017d1baa18", func := "recension/recensionlaw18.LayoutTurn", spec := "layoutTurn", inPlace := ["internal/bytealg.IndexByteString", "internal/bytealg.IndexString", "internal/bytealg.CountString", "internal/abi.NoEscape", "internal/bytealg.MakeNoZero"], unfollowed := true, recurses := true, named := ["internal/bytealg.MaxLen", "unicode/utf8.first", "unicode/utf8.acceptRanges"], apart := false, laid := [("unicode/utf8.acceptRanges", laid_unicode_utf8_acceptRanges), ("unicode/utf8.first", laid_unicode_utf8_first)], narrowed := true }
def LayoutTurnUptoSaid : Prop := layoutTurnUptoRow.holds Tryz.pinned (OpenSpec.upto layoutTurnSpec)

/-- 'recensionlaw18.LayoutTabs', WHERE WHAT IT READS IS OF BULK AT MOST 1048576: true; the input reads as it did. -/
def layoutTabsUptoRow : OpenClaim := { program := "ytmlhdhpjcipcdaagreatdoor", sum := "196d56c9706bd94feafd17a6ef644e808ab8d07327ce74543a44f4017d1baa18", func := "recension/recensionlaw18.LayoutTabs", spec := "layoutTabs", inPlace := ["internal/bytealg.IndexByteString", "internal/bytealg.IndexString", "internal/bytealg.CountString", "internal/abi.NoEscape", "internal/bytealg.MakeNoZero"], unfollowed := true, recurses := true, named := ["internal/bytealg.MaxLen", "unicode/utf8.first", "unicode/utf8.acceptRanges"], apart := false, laid := [("unicode/utf8.acceptRanges", laid_unicode_utf8_acceptRanges), ("unicode/utf8.first", laid_unicode_utf8_first)], narrowed := true }
def LayoutTabsUptoSaid : Prop := layoutTabsUptoRow.holds Tryz.pinned (OpenSpec.upto layoutTabsSpec)

/-- 'recensionlaw18.LayoutEmpty', WHERE WHAT IT READS IS OF BULK AT MOST 1048576: true; the input reads as it did. -/
def layoutEmptyUptoRow : OpenClaim := { program := "ytmlhdhpjcipcdaagreatdoor", sum := "196d56c9706bd94feafd17a6ef644e808ab8d07327ce74543a44f4017d1baa18", func := "recension/recensionlaw18.LayoutEmpty", spec := "layoutEmpty", inPlace := ["internal/bytealg.IndexByteString", "internal/bytealg.IndexString", "internal/bytealg.CountString", "internal/abi.NoEscape", "internal/bytealg.MakeNoZero"], unfollowed := true, recurses := true, named := ["internal/bytealg.MaxLen", "unicode/utf8.first", "unicode/utf8.acceptRanges"], apart := false, laid := [("unicode/utf8.acceptRanges", laid_unicode_utf8_acceptRanges), ("unicode/utf8.first", laid_unicode_utf8_first)], narrowed := true }
def LayoutEmptyUptoSaid : Prop := layoutEmptyUptoRow.holds Tryz.pinned (OpenSpec.upto layoutEmptySpec)

end Rows
end Go.Proofs.YtmlhdhpjcipcdaaGreatDoor
