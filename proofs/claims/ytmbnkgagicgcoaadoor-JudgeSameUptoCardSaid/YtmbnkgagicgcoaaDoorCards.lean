/-
  DERIVED. GIVEN WITH THE SEED: THE CARDS: each row of YtmbnkgagicgcoaaDoorRows.lean that lists a variable, with what it lists TIED to the program's text (the seventh form; the later family's looks); each row that meets fmt, with fmt's text TOLD by the authors' own Lean function (tested against real Go, not proved from fmt's source: count such statements apart). THE CARD IS WHAT COUNTS. Prove the row's statement (the work); the ties are given (YtmbnkgagicgcoaaDoorTie.lean); close each card by the builder's one call (the guide's Derived/Test/ToyasCard.lean, 'card_holds'). Laid BY PROGRAM, IN A SANDBOX (cutbox-door.mjs). By AI agents, Wed Nov 11 2026. No macro, syntax, notation, axiom, sorry.
-/
import Derived.Test.YtmbnkgagicgcoaaDoorRows
import GoSem.ClaimSeven
namespace Go.Proofs.YtmbnkgagicgcoaaDoor
namespace Rows

/-- THE TIED CARD OF 'recensionlaw28.JudgeAll'. -/
def judgeAllCard : Claim7 := { stood := { row := judgeAllRow, standIns := [], harness := (true, "d059d75c7f32917816293341f9521c20bf00238bc58110e0034ef581509d7053"), looks := false }, kinds := [], alts := [], laidByText := true, laidKinds := [.data, .pinned], laidTests := true, laidLooks := .later }
def JudgeAllCardSaid : Prop := Claim7.holds Tryd.pinned (.plain (OpenSpec.ofChange judgeAllSpec)) judgeAllCard

/-- THE TIED CARD OF 'recensionlaw28.JudgeRenamed'. -/
def judgeRenamedCard : Claim7 := { stood := { row := judgeRenamedRow, standIns := [], harness := (true, "d059d75c7f32917816293341f9521c20bf00238bc58110e0034ef581509d7053"), looks := false }, kinds := [], alts := [], laidByText := true, laidKinds := [.data, .pinned], laidTests := true, laidLooks := .later }
def JudgeRenamedCardSaid : Prop := Claim7.holds Tryd.pinned (.plain (OpenSpec.ofChange judgeRenamedSpec)) judgeRenamedCard

/-- THE TIED CARD OF 'recensionlaw28.JudgeSame'. -/
def judgeSameCard : Claim7 := { stood := { row := judgeSameRow, standIns := [], harness := (true, "d059d75c7f32917816293341f9521c20bf00238bc58110e0034ef581509d7053"), looks := false }, kinds := [], alts := [], laidByText := true, laidKinds := [.data, .pinned], laidTests := true, laidLooks := .later }
def JudgeSameCardSaid : Prop := Claim7.holds Tryd.pinned (.plain (OpenSpec.ofChange judgeSameSpec)) judgeSameCard

/-- THE SECOND FORM's CARD OF 'recensionlaw28.JudgeAll'. -/
def judgeAllUptoCard : Claim7 := { stood := { row := judgeAllUptoRow, standIns := [], harness := (true, "d059d75c7f32917816293341f9521c20bf00238bc58110e0034ef581509d7053"), looks := false }, kinds := [], alts := [], laidByText := true, laidKinds := [.data, .pinned], laidTests := true, laidLooks := .later }
def JudgeAllUptoCardSaid : Prop := Claim7.holds Tryd.pinned (.plain (OpenSpec.upto judgeAllSpec)) judgeAllUptoCard

/-- THE SECOND FORM's CARD OF 'recensionlaw28.JudgeRenamed'. -/
def judgeRenamedUptoCard : Claim7 := { stood := { row := judgeRenamedUptoRow, standIns := [], harness := (true, "d059d75c7f32917816293341f9521c20bf00238bc58110e0034ef581509d7053"), looks := false }, kinds := [], alts := [], laidByText := true, laidKinds := [.data, .pinned], laidTests := true, laidLooks := .later }
def JudgeRenamedUptoCardSaid : Prop := Claim7.holds Tryd.pinned (.plain (OpenSpec.upto judgeRenamedSpec)) judgeRenamedUptoCard

/-- THE SECOND FORM's CARD OF 'recensionlaw28.JudgeSame'. -/
def judgeSameUptoCard : Claim7 := { stood := { row := judgeSameUptoRow, standIns := [], harness := (true, "d059d75c7f32917816293341f9521c20bf00238bc58110e0034ef581509d7053"), looks := false }, kinds := [], alts := [], laidByText := true, laidKinds := [.data, .pinned], laidTests := true, laidLooks := .later }
def JudgeSameUptoCardSaid : Prop := Claim7.holds Tryd.pinned (.plain (OpenSpec.upto judgeSameSpec)) judgeSameUptoCard
end Rows
end Go.Proofs.YtmbnkgagicgcoaaDoor
