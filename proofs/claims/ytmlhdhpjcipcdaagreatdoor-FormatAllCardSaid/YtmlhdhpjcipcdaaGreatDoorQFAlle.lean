/- Part of the proof: closed facts of the program, reckoned by the kernel. No condition. -/
import Derived.Test.YtmlhdhpjcipcdaaGreatDoorRows
import Derived.JoinedCond
import Derived.KernelRfl
import Derived.WalkKit
namespace Go.Proofs.YtmlhdhpjcipcdaaGreatDoor.formatAllRow
open Go Go.ChangeShapes Go.WideShapes Go.ChangeAt Go.RowKit
theorem f1 : (Rows.formatAllRow.inPlace == Program.inPlace Tryz.pinned.checked.prog 5) = true := by kernel_rfl
theorem f2 : (Rows.formatAllRow.unfollowed == Program.unfollowed Tryz.pinned.checked.prog 5) = true := by kernel_rfl
theorem f3 : (Rows.formatAllRow.recurses == Program.recurses Tryz.pinned.checked.prog 5) = true := by kernel_rfl
theorem f4 : (Rows.formatAllRow.named == Program.varsNamed Tryz.pinned.checked.prog 5) = true := by kernel_rfl
end Go.Proofs.YtmlhdhpjcipcdaaGreatDoor.formatAllRow
