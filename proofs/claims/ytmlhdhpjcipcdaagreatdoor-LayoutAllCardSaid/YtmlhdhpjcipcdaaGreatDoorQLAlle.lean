/- Part of the proof: closed facts of the program, reckoned by the kernel. No condition. -/
import Derived.Test.YtmlhdhpjcipcdaaGreatDoorRows
import Derived.JoinedCond
import Derived.KernelRfl
import Derived.WalkKit
namespace Go.Proofs.YtmlhdhpjcipcdaaGreatDoor.layoutAllRow
open Go Go.ChangeShapes Go.WideShapes Go.ChangeAt Go.RowKit
theorem f1 : (Rows.layoutAllRow.inPlace == Program.inPlace Tryz.pinned.checked.prog 16) = true := by kernel_rfl
theorem f2 : (Rows.layoutAllRow.unfollowed == Program.unfollowed Tryz.pinned.checked.prog 16) = true := by kernel_rfl
theorem f3 : (Rows.layoutAllRow.recurses == Program.recurses Tryz.pinned.checked.prog 16) = true := by kernel_rfl
theorem f4 : (Rows.layoutAllRow.named == Program.varsNamed Tryz.pinned.checked.prog 16) = true := by kernel_rfl
end Go.Proofs.YtmlhdhpjcipcdaaGreatDoor.layoutAllRow
