/- Part of the proof: closed facts of the program, reckoned by the kernel. No condition. -/
import Derived.Test.YtmlhdhpjcipcdaaGreatDoorRows
import Derived.JoinedCond
import Derived.KernelRfl
import Derived.WalkKit
namespace Go.Proofs.YtmlhdhpjcipcdaaGreatDoor.layoutTurnRow
open Go Go.ChangeShapes Go.WideShapes Go.ChangeAt Go.RowKit
theorem d1 : (Rows.layoutTurnRow.plainKeys == Program.plainKeys Tryz.pinned.checked.prog) = true := by kernel_rfl
theorem d2 : (Program.make Tryz.pinned.checked.prog == some Rows.layoutTurnRow.make) = true := by kernel_rfl
end Go.Proofs.YtmlhdhpjcipcdaaGreatDoor.layoutTurnRow
