/- Part of the proof: closed facts of the program, reckoned by the kernel. No condition. -/
import Derived.Test.YtmlhdhpjcipcdaaGreatDoorRows
import Derived.JoinedCond
import Derived.KernelRfl
import Derived.WalkKit
namespace Go.Proofs.YtmlhdhpjcipcdaaGreatDoor.judgeFormatRow
open Go Go.ChangeShapes Go.WideShapes Go.ChangeAt Go.RowKit
theorem f1 : (Rows.judgeFormatRow.inPlace == Program.inPlace Tryz.pinned.checked.prog 15) = true := by kernel_rfl
theorem f2 : (Rows.judgeFormatRow.unfollowed == Program.unfollowed Tryz.pinned.checked.prog 15) = true := by kernel_rfl
theorem f3 : (Rows.judgeFormatRow.recurses == Program.recurses Tryz.pinned.checked.prog 15) = true := by kernel_rfl
theorem f4 : (Rows.judgeFormatRow.named == Program.varsNamed Tryz.pinned.checked.prog 15) = true := by kernel_rfl
end Go.Proofs.YtmlhdhpjcipcdaaGreatDoor.judgeFormatRow
