/-
  NARROWER THAN 'FOR EVERY INPUT', by the rows' own cells (each row's printed sentence says how): ParseRanks: laid · ParseChain: laid · ParseTail: laid · ParseSemis: laid · ParseElse: laid.
  DERIVED. THE GIVEN ROWS OF THIS SEAT. 5 by the template 'for every input the law returns true; each argument reads behind the call as it read before'; 0 by the template 'total and deterministic' (their statements: YtinhgekebidigaaDoorTotals.lean).
  GIVEN WITH THE SEED: the statements are not yours to turn. If you find one false, say at which input.
  Laid BY PROGRAM, IN A SANDBOX (cutbox-rows.mjs): the forced cells as the released guide's own fill.sh prints them over the translation d28cd45af076fa1b… (all of the seat's roots in one cut). By AI agents, Wed Nov 11 2026. No macro, syntax, notation, axiom, sorry.
-/
import Derived.Test.YtinhgekebidigaaDoorChecked
import GoSem.PinnedTables
import GoSem.Claim
import GoSem.ClaimJoined
import GoSem.ClaimMapViews
import Derived.JoinedTies
import Derived.KernelRfl
namespace Go.Proofs.YtinhgekebidigaaDoor
/- THE CELL 'sum', in the pinned program and in every row, IS THE sha256 OF THE DUMP (.gsa) THAT YtinhgekebidigaaDoorProg.lean LOADS. Nothing in Lean hashes anything: it is a label: what it is worth is what the hold of that sum in a sandbox is worth. -/
noncomputable def Tryd.pinned : Pinned := { name := "ytinhgekebidigaadoor", sum := "d28cd45af076fa1b969d80560bc31b8ee79af9c4c2c857412443e3f993202cc0", checked := Tryd.checked }
namespace Rows
def none {H : Type} : Left H := { results := [], args := [] }

/- WHAT THE LISTED PACKAGE-LEVEL VARIABLES READ AS WHEN THE CALL BEGINS. Each datum BY PROGRAM (the guide's laid-datum.mjs) off the statement by which the dump's own 'gosem.cut.vars' lays the variable. In a bare row this is a premise. The card (YtinhgekebidigaaDoorCards.lean) ties it to the program's text. -/
def laid_unicode_utf8_acceptRanges {H : Type} : DataW H := .agg [.agg [.lit (.int .u8 128), .lit (.int .u8 191)], .agg [.lit (.int .u8 160), .lit (.int .u8 191)], .agg [.lit (.int .u8 128), .lit (.int .u8 159)], .agg [.lit (.int .u8 144), .lit (.int .u8 191)], .agg [.lit (.int .u8 128), .lit (.int .u8 143)], .agg [.lit (.int .u8 0), .lit (.int .u8 0)], .agg [.lit (.int .u8 0), .lit (.int .u8 0)], .agg [.lit (.int .u8 0), .lit (.int .u8 0)], .agg [.lit (.int .u8 0), .lit (.int .u8 0)], .agg [.lit (.int .u8 0), .lit (.int .u8 0)], .agg [.lit (.int .u8 0), .lit (.int .u8 0)], .agg [.lit (.int .u8 0), .lit (.int .u8 0)], .agg [.lit (.int .u8 0), .lit (.int .u8 0)], .agg [.lit (.int .u8 0), .lit (.int .u8 0)], .agg [.lit (.int .u8 0), .lit (.int .u8 0)], .agg [.lit (.int .u8 0), .lit (.int .u8 0)]]
/-- One of Go's own tables, pinned by name: the form's constant. -/
def laid_unicode_utf8_first : DataW Unit := Go.Pinned.utf8First

/-- 'recensionlaw11.ParseRanks': WHATEVER THE INPUT: true; the input reads as it did. -/
def parseRanksSpec : ChangeSpec := { name := "parseRanks", fn := fun _ => fun
  | [d1, d2] => { results := [.lit (.bool true)], args := [d1, d2] }
  | _ => none }
def parseRanksRow : OpenClaim := { program := "ytinhgekebidigaadoor", sum := "d28cd45af076fa1b969d80560bc31b8ee79af9c4c2c857412443e3f993202cc0", func := "recension/recensionlaw11.ParseRanks", spec := "parseRanks", inPlace := ["internal/bytealg.IndexByteString", "internal/bytealg.IndexString"], unfollowed := true, recurses := true, named := ["internal/bytealg.MaxLen", "unicode/utf8.first", "unicode/utf8.acceptRanges"], apart := false, laid := [("unicode/utf8.acceptRanges", laid_unicode_utf8_acceptRanges), ("unicode/utf8.first", laid_unicode_utf8_first)] }
def ParseRanksSaid : Prop := parseRanksRow.holds Tryd.pinned (OpenSpec.ofChange parseRanksSpec)

/-- ITS FALSE NEIGHBOUR: 'it returns false'. Refute it at one input. -/
def parseRanksWrong : ChangeSpec := { name := "parseRanks", fn := fun _ => fun
  | [d1, d2] => { results := [.lit (.bool false)], args := [d1, d2] }
  | _ => none }
def ParseRanksWrongFalsely : Prop := parseRanksRow.holds Tryd.pinned (OpenSpec.ofChange parseRanksWrong)

/-- 'recensionlaw11.ParseChain': WHATEVER THE INPUT: true; the input reads as it did. -/
def parseChainSpec : ChangeSpec := { name := "parseChain", fn := fun _ => fun
  | [d1, d2] => { results := [.lit (.bool true)], args := [d1, d2] }
  | _ => none }
def parseChainRow : OpenClaim := { program := "ytinhgekebidigaadoor", sum := "d28cd45af076fa1b969d80560bc31b8ee79af9c4c2c857412443e3f993202cc0", func := "recension/recensionlaw11.ParseChain", spec := "parseChain", inPlace := ["internal/bytealg.IndexByteString", "internal/bytealg.IndexString"], unfollowed := true, recurses := true, named := ["internal/bytealg.MaxLen", "unicode/utf8.first", "unicode/utf8.acceptRanges"], apart := false, laid := [("unicode/utf8.acceptRanges", laid_unicode_utf8_acceptRanges), ("unicode/utf8.first", laid_unicode_utf8_first)] }
def ParseChainSaid : Prop := parseChainRow.holds Tryd.pinned (OpenSpec.ofChange parseChainSpec)

/-- ITS FALSE NEIGHBOUR: 'it returns false'. Refute it at one input. -/
def parseChainWrong : ChangeSpec := { name := "parseChain", fn := fun _ => fun
  | [d1, d2] => { results := [.lit (.bool false)], args := [d1, d2] }
  | _ => none }
def ParseChainWrongFalsely : Prop := parseChainRow.holds Tryd.pinned (OpenSpec.ofChange parseChainWrong)

/-- 'recensionlaw11.ParseTail': WHATEVER THE INPUT: true; the input reads as it did. -/
def parseTailSpec : ChangeSpec := { name := "parseTail", fn := fun _ => fun
  | [d1, d2] => { results := [.lit (.bool true)], args := [d1, d2] }
  | _ => none }
def parseTailRow : OpenClaim := { program := "ytinhgekebidigaadoor", sum := "d28cd45af076fa1b969d80560bc31b8ee79af9c4c2c857412443e3f993202cc0", func := "recension/recensionlaw11.ParseTail", spec := "parseTail", inPlace := ["internal/bytealg.IndexByteString", "internal/bytealg.IndexString"], unfollowed := true, recurses := true, named := ["internal/bytealg.MaxLen", "unicode/utf8.first", "unicode/utf8.acceptRanges"], apart := false, laid := [("unicode/utf8.acceptRanges", laid_unicode_utf8_acceptRanges), ("unicode/utf8.first", laid_unicode_utf8_first)] }
def ParseTailSaid : Prop := parseTailRow.holds Tryd.pinned (OpenSpec.ofChange parseTailSpec)

/-- ITS FALSE NEIGHBOUR: 'it returns false'. Refute it at one input. -/
def parseTailWrong : ChangeSpec := { name := "parseTail", fn := fun _ => fun
  | [d1, d2] => { results := [.lit (.bool false)], args := [d1, d2] }
  | _ => none }
def ParseTailWrongFalsely : Prop := parseTailRow.holds Tryd.pinned (OpenSpec.ofChange parseTailWrong)

/-- 'recensionlaw11.ParseSemis': WHATEVER THE INPUT: true; the input reads as it did. -/
def parseSemisSpec : ChangeSpec := { name := "parseSemis", fn := fun _ => fun
  | [d1, d2] => { results := [.lit (.bool true)], args := [d1, d2] }
  | _ => none }
def parseSemisRow : OpenClaim := { program := "ytinhgekebidigaadoor", sum := "d28cd45af076fa1b969d80560bc31b8ee79af9c4c2c857412443e3f993202cc0", func := "recension/recensionlaw11.ParseSemis", spec := "parseSemis", inPlace := ["internal/bytealg.IndexByteString", "internal/bytealg.IndexString"], unfollowed := true, recurses := true, named := ["internal/bytealg.MaxLen", "unicode/utf8.first", "unicode/utf8.acceptRanges"], apart := false, laid := [("unicode/utf8.acceptRanges", laid_unicode_utf8_acceptRanges), ("unicode/utf8.first", laid_unicode_utf8_first)] }
def ParseSemisSaid : Prop := parseSemisRow.holds Tryd.pinned (OpenSpec.ofChange parseSemisSpec)

/-- ITS FALSE NEIGHBOUR: 'it returns false'. Refute it at one input. -/
def parseSemisWrong : ChangeSpec := { name := "parseSemis", fn := fun _ => fun
  | [d1, d2] => { results := [.lit (.bool false)], args := [d1, d2] }
  | _ => none }
def ParseSemisWrongFalsely : Prop := parseSemisRow.holds Tryd.pinned (OpenSpec.ofChange parseSemisWrong)

/-- 'recensionlaw11.ParseElse': WHATEVER THE INPUT: true; the input reads as it did. -/
def parseElseSpec : ChangeSpec := { name := "parseElse", fn := fun _ => fun
  | [d1, d2] => { results := [.lit (.bool true)], args := [d1, d2] }
  | _ => none }
def parseElseRow : OpenClaim := { program := "ytinhgekebidigaadoor", sum := "d28cd45af076fa1b969d80560bc31b8ee79af9c4c2c857412443e3f993202cc0", func := "recension/recensionlaw11.ParseElse", spec := "parseElse", inPlace := ["internal/bytealg.IndexByteString", "internal/bytealg.IndexString"], unfollowed := true, recurses := true, named := ["internal/bytealg.MaxLen", "unicode/utf8.first", "unicode/utf8.acceptRanges"], apart := false, laid := [("unicode/utf8.acceptRanges", laid_unicode_utf8_acceptRanges), ("unicode/utf8.first", laid_unicode_utf8_first)] }
def ParseElseSaid : Prop := parseElseRow.holds Tryd.pinned (OpenSpec.ofChange parseElseSpec)

/-- ITS FALSE NEIGHBOUR: 'it returns false'. Refute it at one input. -/
def parseElseWrong : ChangeSpec := { name := "parseElse", fn := fun _ => fun
  | [d1, d2] => { results := [.lit (.bool false)], args := [d1, d2] }
  | _ => none }
def ParseElseWrongFalsely : Prop := parseElseRow.holds Tryd.pinned (OpenSpec.ofChange parseElseWrong)

/- THE SECOND FORM. 'bulk': how many values and letters a reading holds, each counted each time it is reached (what is shared counts as often as it is met; a slice's spare places count too). A statement '..UptoSaid' is the law's where the arguments, and the package variables that the reading takes, are together of bulk at most 1048576: NARROWER than '..Said'. Prove '..Said' where nothing that the law and all that it calls make is longer than what came in: it says more and counts as full. Else prove '..UptoSaid'. A law counts once. -/
mutual
def uptoBulk {H : Type} : DataW H → Nat
  | .lit (.string bytes) => bytes.length + 1
  | .lit _ => 1
  | .nil => 1
  | .ptr d => uptoBulk d + 1
  | .slice elems spare => uptoBulkAll elems + uptoBulkAll spare + 1
  | .agg parts => uptoBulkAll parts + 1
  | .iface _ d => uptoBulk d + 1
  | .map entries => uptoBulkEntries entries + 1
  | .held _ => 1
def uptoBulkAll {H : Type} : List (DataW H) → Nat
  | [] => 0
  | d :: r => uptoBulk d + uptoBulkAll r
def uptoBulkEntries {H : Type} : List (Lit × DataW H) → Nat
  | [] => 0
  | x :: r => uptoBulkEntry x + uptoBulkEntries r
def uptoBulkEntry {H : Type} : Lit × DataW H → Nat
  | (.string bytes, d) => bytes.length + uptoBulk d + 1
  | (_, d) => uptoBulk d + 1
 end
def uptoSmall : (H : Type) → List (DataW H) → Bool := fun _ ds => decide (uptoBulkAll ds ≤ 1048576)
def OpenSpec.upto (s : _root_.Go.ChangeSpec) : _root_.Go.OpenSpec := { _root_.Go.OpenSpec.ofChange s with cond := some uptoSmall }

/-- 'recensionlaw11.ParseRanks', WHERE WHAT IT READS IS OF BULK AT MOST 1048576: true; the input reads as it did. -/
def parseRanksUptoRow : OpenClaim := { program := "ytinhgekebidigaadoor", sum := "d28cd45af076fa1b969d80560bc31b8ee79af9c4c2c857412443e3f993202cc0", func := "recension/recensionlaw11.ParseRanks", spec := "parseRanks", inPlace := ["internal/bytealg.IndexByteString", "internal/bytealg.IndexString"], unfollowed := true, recurses := true, named := ["internal/bytealg.MaxLen", "unicode/utf8.first", "unicode/utf8.acceptRanges"], apart := false, laid := [("unicode/utf8.acceptRanges", laid_unicode_utf8_acceptRanges), ("unicode/utf8.first", laid_unicode_utf8_first)], narrowed := true }
def ParseRanksUptoSaid : Prop := parseRanksUptoRow.holds Tryd.pinned (OpenSpec.upto parseRanksSpec)

/-- 'recensionlaw11.ParseChain', WHERE WHAT IT READS IS OF BULK AT MOST 1048576: true; the input reads as it did. -/
def parseChainUptoRow : OpenClaim := { program := "ytinhgekebidigaadoor", sum := "d28cd45af076fa1b969d80560bc31b8ee79af9c4c2c857412443e3f993202cc0", func := "recension/recensionlaw11.ParseChain", spec := "parseChain", inPlace := ["internal/bytealg.IndexByteString", "internal/bytealg.IndexString"], unfollowed := true, recurses := true, named := ["internal/bytealg.MaxLen", "unicode/utf8.first", "unicode/utf8.acceptRanges"], apart := false, laid := [("unicode/utf8.acceptRanges", laid_unicode_utf8_acceptRanges), ("unicode/utf8.first", laid_unicode_utf8_first)], narrowed := true }
def ParseChainUptoSaid : Prop := parseChainUptoRow.holds Tryd.pinned (OpenSpec.upto parseChainSpec)

/-- 'recensionlaw11.ParseTail', WHERE WHAT IT READS IS OF BULK AT MOST 1048576: true; the input reads as it did. -/
def parseTailUptoRow : OpenClaim := { program := "ytinhgekebidigaadoor", sum := "d28cd45af076fa1b969d80560bc31b8ee79af9c4c2c857412443e3f993202cc0", func := "recension/recensionlaw11.ParseTail", spec := "parseTail", inPlace := ["internal/bytealg.IndexByteString", "internal/bytealg.IndexString"], unfollowed := true, recurses := true, named := ["internal/bytealg.MaxLen", "unicode/utf8.first", "unicode/utf8.acceptRanges"], apart := false, laid := [("unicode/utf8.acceptRanges", laid_unicode_utf8_acceptRanges), ("unicode/utf8.first", laid_unicode_utf8_first)], narrowed := true }
def ParseTailUptoSaid : Prop := parseTailUptoRow.holds Tryd.pinned (OpenSpec.upto parseTailSpec)

/-- 'recensionlaw11.ParseSemis', WHERE WHAT IT READS IS OF BULK AT MOST 1048576: true; the input reads as it did. -/
def parseSemisUptoRow : OpenClaim := { program := "ytinhgekebidigaadoor", sum := "d28cd45af076fa1b969d80560bc31b8ee79af9c4c2c857412443e3f993202cc0", func := "recension/recensionlaw11.ParseSemis", spec := "parseSemis", inPlace := ["internal/bytealg.IndexByteString", "internal/bytealg.IndexString"], unfollowed := true, recurses := true, named := ["internal/bytealg.MaxLen", "unicode/utf8.first", "unicode/utf8.acceptRanges"], apart := false, laid := [("unicode/utf8.acceptRanges", laid_unicode_utf8_acceptRanges), ("unicode/utf8.first", laid_unicode_utf8_first)], narrowed := true }
def ParseSemisUptoSaid : Prop := parseSemisUptoRow.holds Tryd.pinned (OpenSpec.upto parseSemisSpec)

/-- 'recensionlaw11.ParseElse', WHERE WHAT IT READS IS OF BULK AT MOST 1048576: true; the input reads as it did. -/
def parseElseUptoRow : OpenClaim := { program := "ytinhgekebidigaadoor", sum := "d28cd45af076fa1b969d80560bc31b8ee79af9c4c2c857412443e3f993202cc0", func := "recension/recensionlaw11.ParseElse", spec := "parseElse", inPlace := ["internal/bytealg.IndexByteString", "internal/bytealg.IndexString"], unfollowed := true, recurses := true, named := ["internal/bytealg.MaxLen", "unicode/utf8.first", "unicode/utf8.acceptRanges"], apart := false, laid := [("unicode/utf8.acceptRanges", laid_unicode_utf8_acceptRanges), ("unicode/utf8.first", laid_unicode_utf8_first)], narrowed := true }
def ParseElseUptoSaid : Prop := parseElseUptoRow.holds Tryd.pinned (OpenSpec.upto parseElseSpec)

end Rows
end Go.Proofs.YtinhgekebidigaaDoor
