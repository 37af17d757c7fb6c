/- Part of the proof: closed facts of the program, reckoned by the kernel. No condition. -/
import Derived.Test.YtmlhdhpjcipcdaaGreatDoorRows
import Derived.JoinedCond
import Derived.KernelRfl
import Derived.WalkKit
namespace Go.Proofs.YtmlhdhpjcipcdaaGreatDoor.formatBlanksRow
open Go Go.ChangeShapes Go.WideShapes Go.ChangeAt Go.RowKit
theorem f1 : (Rows.formatBlanksRow.inPlace == Program.inPlace Tryz.pinned.checked.prog 9) = true := by kernel_rfl
theorem f2 : (Rows.formatBlanksRow.unfollowed == Program.unfollowed Tryz.pinned.checked.prog 9) = true := by kernel_rfl
theorem f3 : (Rows.formatBlanksRow.recurses == Program.recurses Tryz.pinned.checked.prog 9) = true := by kernel_rfl
theorem f4 : (Rows.formatBlanksRow.named == Program.varsNamed Tryz.pinned.checked.prog 9) = true := by kernel_rfl
end Go.Proofs.YtmlhdhpjcipcdaaGreatDoor.formatBlanksRow
