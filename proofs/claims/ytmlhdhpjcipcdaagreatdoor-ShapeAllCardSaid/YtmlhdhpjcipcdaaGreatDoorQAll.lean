/- ShapeAll: the Go function returns true whatever the arguments are, and they read as they did. No condition beside the row's own: the two tables of unicode/utf8 start as the program's text lays them. -/
import Derived.Test.YtmlhdhpjcipcdaaGreatDoorQAllb
import Derived.Test.YtmlhdhpjcipcdaaGreatDoorQFd
import Derived.Test.YtmlhdhpjcipcdaaGreatDoorQFa
import Derived.Test.YtmlhdhpjcipcdaaGreatDoorRows
import Derived.JoinedCond
import Derived.KernelRfl
import Derived.WalkKit
import Derived.SevenTiedAt
namespace Go.Proofs.YtmlhdhpjcipcdaaGreatDoor.shapeAllRow
open Go Go.ChangeShapes Go.WideShapes Go.ChangeAt Go.RowKit
theorem g1 : false = Rows.shapeAllRow.goesBy Tryz.pinned.checked.prog := by kernel_rfl
theorem g2 : Rows.shapeAllRow.wfByText (OpenSpec.ofChange Rows.shapeAllSpec) = true := by kernel_rfl
end Go.Proofs.YtmlhdhpjcipcdaaGreatDoor.shapeAllRow

namespace Go.Proofs.YtmlhdhpjcipcdaaGreatDoor.shapeAll
open Go.ChangeShapes Go.WideShapes Go.ChangeAt Go.RowKit Go.Proofs.Dm Go.Shelf Go.Lib
open Go.ChangeMaps (open_string shut_string)
set_option linter.unusedVariables false
set_option maxRecDepth 100000 in
set_option maxHeartbeats 4000000 in
/-- The statement. -/
theorem proved : Rows.ShapeAllCardSaid :=
  Claim7.holds_tied_plain_at .later [] [.data, .pinned] true (true, "f37745dba9c26587b558f43ca97f1ba7445e08bfb98746c70e9354807e23b08e") false
    over (fun _ h => by cases h) Go.Proofs.YtmlhdhpjcipcdaaGreatDoor.shapeAllRow.g2 (fun _ h => by cases h) shapeAll_row_tie rfl ⟨rfl, rfl⟩ Go.Proofs.YtmlhdhpjcipcdaaGreatDoor.facts.d1 rfl
    (fun f fn hf hfn => by
      obtain rfl : f = 3 := Option.some.inj ((show Tryz.prog.funcNamed "recension/recensionlaw12.ShapeAll" = some 3 by kernel_rfl).symm.trans hf) |>.symm
      obtain rfl : fn = Tryz.f3 := (Option.some.inj (Tryz.func3.symm.trans hfn)).symm
      exact ⟨Go.Proofs.YtmlhdhpjcipcdaaGreatDoor.facts.e1, fun j t ht => by
        rw [Tryz.params3] at ht
        have h9 : t = 9 := by
          rcases j with _ | _ | j
          · simpa using ht.symm
          · simpa using ht.symm
          · simp at ht
        rcases h9 with rfl
        · exact (show Tryz.prog.wantsStandIn 9 = false by kernel_rfl)⟩)
    Go.Proofs.YtmlhdhpjcipcdaaGreatDoor.shapeAllRow.g1
#print axioms proved
end Go.Proofs.YtmlhdhpjcipcdaaGreatDoor.shapeAll
