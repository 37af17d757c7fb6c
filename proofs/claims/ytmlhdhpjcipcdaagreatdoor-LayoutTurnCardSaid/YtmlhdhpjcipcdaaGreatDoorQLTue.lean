/- Part of the proof: closed facts of the program, reckoned by the kernel. No condition. -/
import Derived.Test.YtmlhdhpjcipcdaaGreatDoorRows
import Derived.JoinedCond
import Derived.KernelRfl
import Derived.WalkKit
namespace Go.Proofs.YtmlhdhpjcipcdaaGreatDoor.layoutTurnRow
open Go Go.ChangeShapes Go.WideShapes Go.ChangeAt Go.RowKit
theorem f1 : (Rows.layoutTurnRow.inPlace == Program.inPlace Tryz.pinned.checked.prog 18) = true := by kernel_rfl
theorem f2 : (Rows.layoutTurnRow.unfollowed == Program.unfollowed Tryz.pinned.checked.prog 18) = true := by kernel_rfl
theorem f3 : (Rows.layoutTurnRow.recurses == Program.recurses Tryz.pinned.checked.prog 18) = true := by kernel_rfl
theorem f4 : (Rows.layoutTurnRow.named == Program.varsNamed Tryz.pinned.checked.prog 18) = true := by kernel_rfl
end Go.Proofs.YtmlhdhpjcipcdaaGreatDoor.layoutTurnRow
